/-
  slices.Sorted of a map's keys hands back the keys in order: the shelf's contracts, laid at this program, in the evaluator's words.
-/
import Derived.Test.YtbfoocginkdmcaaGreatDoorKJ
import Derived.Test.YtbfoocginkdmcaaGreatDoorKA
import Derived.Shelf.SlIter.Nil
import Derived.Shelf.SortM.Plain
import Derived.Shelf.SortM.SortNone
import Derived.WalkKit
import Derived.Lib.EndianBits
import Derived.Shelf.Strings.Search2

set_option linter.unusedVariables false
set_option maxRecDepth 100000
namespace Go.Proofs.YtbfoocginkdmcaaGreatDoor
open Go Go.Ev Go.RowKit Go.Maps Go.Sort Go.Shelf Go.WideElems

/- ### A map's keys, sorted -/
theorem sorts167 (m : Nat) : AnyZ.SortsIn Tryz.prog Tryz.sorted167_ren Fence.wide m :=
  ⟨fun blk off cap ss W hH hblk hsz => callsIn_wide.2 (AnyM.slices_Sort_string Tryz.sort268 blk off cap ss W hH hblk hsz),
   fun p cap W => callsIn_wide.2 (AnyM.slices_Sort_string_none Tryz.sort268 p cap W)⟩

def anyR (_ : Value) : Option (DataW Unit × List MemPlace) := some (.nil, [])

theorem key_of {x : MapEntry} {s : ByteArray} (hx : x.key = .string s) (hs : s.size ≤ 1000000) : Go.WideElems.rd Tryz.prog 9 anyR x = some (.string s.data.toList, .nil) := by
  have h9 : Tryz.prog.underlying 9 = some .string := Tryz.underlying9
  have hk : Go.keyOf Tryz.prog 9 x.key = some (.string s.data.toList) := by
    rw [hx]
    simp only [Go.keyOf, h9, Go.mapKey]
    rw [if_pos (show s.size ≤ Go.maxLen from by unfold Go.maxLen; omega)]
  unfold Go.WideElems.rd
  rw [hk]
  rfl

theorem srt_ok : SrtOK Tryz.prog srtF := by
  intro f k g kt hf hg w q b es clock hq hb hst hkeys hsz
  unfold srtF at hf
  cases h1 : Nat.beq f 167 with
  | false => rw [h1] at hf; cases hf
  | true =>
    obtain rfl := Nat.eq_of_beq_eq_true h1
    rw [h1] at hf
    simp only [cond_true, Option.some.injEq] at hf
    subst hf
    have F : Fit Tryz.prog 9 anyR es clock := ⟨by unfold Go.maxLen; omega, hst, fun x hx => by
      obtain ⟨s, h2, h3⟩ := hkeys x hx
      exact ⟨_, key_of h2 h3⟩⟩
    have hown : w.ownsMap Tryz.prog 9 anyR b es.size (.map ((es.toList.map (rg Tryz.prog 9 anyR)).foldr DataW.insert [])) := ⟨es, clock, hb, F, Nat.le_refl _, rfl⟩
    have hlen : Maps.size (.map ((es.toList.map (rg Tryz.prog 9 anyR)).foldr DataW.insert [])) ≤ 1000000 := by
      show ((es.toList.map (rg Tryz.prog 9 anyR)).foldr DataW.insert []).length ≤ _
      rw [(Go.WideShapes.sorted_perm _).length_eq]
      simpa using hsz
    have hperm : (strKeys (.map ((es.toList.map (rg Tryz.prog 9 anyR)).foldr DataW.insert []))).Perm (es.toList.map Go.Ev.keyBytes) := by
      show (((es.toList.map (rg Tryz.prog 9 anyR)).foldr DataW.insert []).map fun p => strOf p.1).Perm _
      refine ((Go.WideShapes.sorted_perm _).map _).trans ?_
      rw [List.map_map]
      refine List.Perm.of_eq (List.map_congr_left fun x hx => ?_)
      obtain ⟨s, h2, h3⟩ := hkeys x hx
      simp only [Function.comp, rg, key_of h2 h3, Go.Ev.keyBytes, h2]
      rfl
    have hlt : q < w.heap.size := by
      rcases Nat.lt_or_ge q w.heap.size with h | h
      · exact h
      · simp [World.cell?, h] at hq
    have fin : ∀ G, SeqGives Fence.wide 2 Tryz.prog G #[.pointer (some ⟨q, 0, none⟩)] encStr (fun ss => ss.Perm (strKeys (.map ((es.toList.map (rg Tryz.prog 9 anyR)).foldr DataW.insert [])))) (Maps.size (.map ((es.toList.map (rg Tryz.prog 9 anyR)).foldr DataW.insert []))) w →
        (∀ (args : Array Value) (w : World), (callFunc G args).run Tryz.prog w = .ok (.enter G args) w) →
        Calls Tryz.prog 167 #[.func (.func G) #[] #[.pointer (some ⟨q, 0, none⟩)]] w fun e w' => ∃ (v : Value) (ss : List (List UInt8)), e = .returned v ∧ ss.Perm (es.toList.map Go.Ev.keyBytes) ∧
          w'.ownsRow w.heap.size 9 1 v ss.length ((ss.mergeSort (fun x y => decide (x ≤ y))).map strV) ∧ (v = .slice none 0 0 ↔ ss = []) ∧ Below w.heap.size w w' := fun G hseq hent => by
      refine (callsIn_wide.1 (AnyZ.sorted_in Tryz.sorted167 Fence.wide 5 trivial trivial trivial trivial rfl (by omega) (sorts167 _) (enters_of Tryz.func268 (by kernel_rfl) rfl) G #[.pointer (some ⟨q, 0, none⟩)] trivial hent _ _ (Nat.le_trans hlen (by decide)) (Nat.le_trans (Nat.mul_le_mul_right 16 hlen) (by decide)) w hseq)).mono fun e w' ⟨v, ss, he, hS, hrow, hnil, hbl⟩ => ?_
      exact ⟨v, ss, he, hS.trans hperm, hrow, hnil, hbl⟩
    cases g0 : Nat.beq g 269 with
    | true =>
      obtain rfl := Nat.eq_of_beq_eq_true g0
      simp only [g0, cond_true, Option.some.injEq] at hg
      subst hg
      exact fin 269 (AnyZ.keys_gives (ρ := Tryz.keys168_ren) { Tryz.keys168 with } Fence.wide 2 trivial rfl (by omega) q b es.size _ w hlt hq hown) (enters_of Tryz.func269 (by kernel_rfl) rfl)
    | false =>
    simp only [g0, cond_false, reduceCtorEq] at hg
end Go.Proofs.YtbfoocginkdmcaaGreatDoor

/-
  The known functions do what the evaluator takes them to do.
-/

set_option linter.unusedVariables false
set_option maxRecDepth 100000
namespace Go.Proofs.YtbfoocginkdmcaaGreatDoor
open Go Go.Ev Go.RowKit
noncomputable section

/- ### The functions that are known -/
theorem fine_low {C : Cx} {G : Nat → Nat} {w w' : World} (h : C.Fine G w) (hb : ∀ b, b < w.heap.size → w'.heap[b]? = w.heap[b]?) (hs : w.heap.size ≤ w'.heap.size) : C.Fine G w' where
  glob := h.glob
  cell g off v hg := by
    obtain ⟨x, h1, h2, h3⟩ := h.cell g off v hg
    refine ⟨x, h1, ?_, Nat.lt_of_lt_of_le h3 hs⟩
    rw [← h2]
    unfold World.cell?
    rw [hb _ h3]
  mixed := h.mixed
  name := h.name
  extern := h.extern

theorem round_ok (x n : Nat) (hx : x < 4294967296) (h1 : 1 ≤ n) (h2 : n ≤ 31) (w : World) : Calls Tryz.prog 522 #[.int .u32 x, .int .u64 n] w fun e w' => e = .returned (.int .u32 (rotN x n : Nat)) ∧ w' = w := by
  go_enter Tryz.func522, Tryz.ntmps522
  go_wp2
  go_ret
  refine ⟨?_, rfl⟩
  have e1 : ((x : Int) / 2 ^ n) = ((x / 2 ^ n : Nat) : Int) := by push_cast; rfl
  have e2 : ((x : Int) * 2 ^ (32 - n) % 4294967296) = ((x * 2 ^ (32 - n) % 4294967296 : Nat) : Int) := by
    rw [Int.natCast_emod, Int.natCast_mul, Int.natCast_pow]
    rfl
  have ha : x / 2 ^ n < 2 ^ 32 := Nat.lt_of_le_of_lt (Nat.div_le_self _ _) hx
  have hb : x * 2 ^ (32 - n) % 4294967296 < 4294967296 := Nat.mod_lt _ (by decide)
  rw [e1, e2, (bits_nat .u32 32 (by decide) wraps_u32 _ _ ha hb).2, ← rot_or x n hx h1 h2, Nat.shiftRight_eq_div_pow, Nat.shiftLeft_eq]
  rfl

theorem idx_calls {w : World} (hm : ∃ m, w.cell? ⟨1, 0, none⟩ = some (.int .i64 m)) (s sub : ByteArray) (hs : s.size < 4294967281) :
    Calls Tryz.prog 117 #[.string s, .string sub] w fun e w' => e = .returned (.int .i64 (Lib.index s.data.toList sub.data.toList)) ∧ w' = w :=
  let ⟨m, hm⟩ := hm
  Any.stringslite_Index { Tryz.laysM219 with } s sub m w hs hm

theorem cell_low {w0 w : World} {g : Nat} (hm : ∃ m, w0.cell? ⟨g, 0, none⟩ = some (.int .i64 m)) (hb : ∀ b, b < w0.heap.size → w.heap[b]? = w0.heap[b]?) : ∃ m, w.cell? ⟨g, 0, none⟩ = some (.int .i64 m) := by
  obtain ⟨m, h⟩ := hm
  refine ⟨m, ?_⟩
  have hlt := lt_of_cell h
  rw [← h]
  unfold World.cell?
  rw [hb _ hlt]

theorem pur_ok {G : Nat → Nat} {w0 : World} (hm : ∃ m, w0.cell? ⟨1, 0, none⟩ = some (.int .i64 m)) : ∀ f k args v, purF f = some k → k args = some v → ∀ (w : World), (∀ b, b < w0.heap.size → w.heap[b]? = w0.heap[b]?) → w0.heap.size ≤ w.heap.size → ∀ ρ xs, denL G ρ args = some xs →
    Calls Tryz.prog f xs.toArray w fun e w' => ∃ x, e = .returned x ∧ den G ρ v = some x ∧ Below w.heap.size w w' := by
  intro f k args v hf hk w hlow hsz ρ xs hx
  unfold purF at hf
  cases h1 : Nat.beq f 117 with
  | true =>
    obtain rfl := Nat.eq_of_beq_eq_true h1
    simp only [h1, cond_true, Option.some.injEq] at hf
    subst hf
    exact idxK_ok hk hx fun s sub hs => idx_calls (cell_low hm hlow) s sub hs
  | false =>
  simp only [h1, cond_false] at hf
  cases h2 : Nat.beq f 522 with
  | true =>
    obtain rfl := Nat.eq_of_beq_eq_true h2
    simp only [h2, cond_true, Option.some.injEq] at hf
    subst hf
    exact rotK_ok hk hx fun x n hx h1 h2 => round_ok x n hx h1 h2 w
  | false => simp only [h2, cond_false, reduceCtorEq] at hf

theorem ofm_ok {G : Nat → Nat} {w0 : World} (ok : cx.Fine G w0) : ∀ f k es v, ofmF f = some k → k es = some v → ∀ (w : World), (∀ b, b < w0.heap.size → w.heap[b]? = w0.heap[b]?) → w0.heap.size ≤ w.heap.size → ∀ (ρ : Env) (b clk : Nat) (l : Array MapEntry), w.heap[b]? = some (.map l clk) → MapKept.Stamped l clk → All2 (entryOK G ρ) es l.toList →
    Calls Tryz.prog f #[.map (some b)] w fun e w' => ∃ x, e = .returned x ∧ den G ρ v = some x ∧ Below w.heap.size w w' := fun f k es v h => by cases h
theorem Tryz.extra156 : Builder.Extra Tryz.prog Tryz.lays156_ren where
  sizeBuilder := by kernel_rfl
  liesBuilder := by kernel_rfl
  t5 := Tryz.underlying5
  a5 := Tryz.isAgg5
  z5 := Tryz.sizeOf5
  v5 := Tryz.zeroValue5
  infoByte := by kernel_rfl
  cellsByte := by kernel_rfl
  sizeByte := by kernel_rfl
  neB5 := by decide

theorem gen_ok {G : Nat → Nat} {w0 : World} : ∀ f k args m v m', genF f = some k → k args m = some (v, m') → AnyOK G w0 Tryz.prog f args m true v m' := by
  intro f k args m v m' hf hk
  unfold genF at hf
  cases h1 : Nat.beq f 75 with
  | true =>
    obtain rfl := Nat.eq_of_beq_eq_true h1
    simp only [h1, cond_true, Option.some.injEq] at hf
    subst hf
    exact joinK_ok hk fun bk o c xs sep w a1 a2 a3 a4 a5 => Any.strings_Join Tryz.lays156 Tryz.extra156 bk o c xs sep w a1 a2 a3 a4 a5
  | false => simp only [h1, cond_false, reduceCtorEq] at hf

theorem kn_ok {G : Nat → Nat} {w0 : World} (ok : cx.Fine G w0) (hm : ∃ m, w0.cell? ⟨1, 0, none⟩ = some (.int .i64 m)) : KnOK G w0 Tryz.prog kn := ⟨srt_ok, pur_ok hm, ofm_ok ok, gen_ok⟩
end
end Go.Proofs.YtbfoocginkdmcaaGreatDoor
