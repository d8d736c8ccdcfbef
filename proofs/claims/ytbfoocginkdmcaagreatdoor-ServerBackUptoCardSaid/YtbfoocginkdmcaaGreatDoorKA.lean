/-
  What the run stands on: the program, the cells of the package-level variables that it reads, the functions that are known.
-/
import Derived.Test.YtbfoocginkdmcaaGreatDoorEvZ
import Derived.Test.YtbfoocginkdmcaaGreatDoorProg
import Derived.Lib.LaidTab
import Derived.FnData
import Derived.ChangeArms
import Derived.Stop.LaidErr

set_option maxRecDepth 100000
set_option linter.unusedVariables false
namespace Go.Proofs.YtbfoocginkdmcaaGreatDoor
open Go Go.Ev Go.RowKit
noncomputable section
noncomputable def extF (f : FuncId) : Option Ext := bif Nat.beq f 110 then some .same else bif Nat.beq f 278 then some .indexByte else bif Nat.beq f 116 then some .count else bif Nat.beq f 128 then some .clone else none
noncomputable def tab0 : List AV := [.bool false, .bool true, .bool true, .bool false, .bool false]
noncomputable def tab2 : List AV := [.int .u64 (.ofNat 1), .int .u64 (.ofNat 10), .int .u64 (.ofNat 100), .int .u64 (.ofNat 1000), .int .u64 (.ofNat 10000), .int .u64 (.ofNat 100000), .int .u64 (.ofNat 1000000), .int .u64 (.ofNat 10000000), .int .u64 (.ofNat 100000000), .int .u64 (.ofNat 1000000000), .int .u64 (.ofNat 10000000000), .int .u64 (.ofNat 100000000000), .int .u64 (.ofNat 1000000000000), .int .u64 (.ofNat 10000000000000), .int .u64 (.ofNat 100000000000000), .int .u64 (.ofNat 1000000000000000), .int .u64 (.ofNat 10000000000000000), .int .u64 (.ofNat 100000000000000000), .int .u64 (.ofNat 1000000000000000000), .int .u64 (.ofNat 10000000000000000000)]
noncomputable def tab7 : List AV := [.int .i64 (.ofNat 1), .int .i64 (.ofNat 256), .int .i64 (.ofNat 1), .int .i64 (.ofNat 256), .int .i64 (.ofNat 1), .int .i64 (.ofNat 256), .int .i64 (.ofNat 0), .int .i64 (.ofNat 256), .int .i64 (.ofNat 1), .int .i64 (.ofNat 256)]
noncomputable def tab8 : List AV := [.str 4 1819047278, .str 5 435728179558, .str 4 1702195828]
noncomputable def tab11 : List AV := [.int .u32 (.ofNat 1779033703), .int .u32 (.ofNat 3144134277), .int .u32 (.ofNat 1013904242), .int .u32 (.ofNat 2773480762), .int .u32 (.ofNat 1359893119), .int .u32 (.ofNat 2600822924), .int .u32 (.ofNat 528734635), .int .u32 (.ofNat 1541459225)]
noncomputable def tab12 : List AV := [.int .u32 (.ofNat 1116352408), .int .u32 (.ofNat 1899447441), .int .u32 (.ofNat 3049323471), .int .u32 (.ofNat 3921009573), .int .u32 (.ofNat 961987163), .int .u32 (.ofNat 1508970993), .int .u32 (.ofNat 2453635748), .int .u32 (.ofNat 2870763221), .int .u32 (.ofNat 3624381080), .int .u32 (.ofNat 310598401), .int .u32 (.ofNat 607225278), .int .u32 (.ofNat 1426881987), .int .u32 (.ofNat 1925078388), .int .u32 (.ofNat 2162078206), .int .u32 (.ofNat 2614888103), .int .u32 (.ofNat 3248222580), .int .u32 (.ofNat 3835390401), .int .u32 (.ofNat 4022224774), .int .u32 (.ofNat 264347078), .int .u32 (.ofNat 604807628), .int .u32 (.ofNat 770255983), .int .u32 (.ofNat 1249150122), .int .u32 (.ofNat 1555081692), .int .u32 (.ofNat 1996064986), .int .u32 (.ofNat 2554220882), .int .u32 (.ofNat 2821834349), .int .u32 (.ofNat 2952996808), .int .u32 (.ofNat 3210313671), .int .u32 (.ofNat 3336571891), .int .u32 (.ofNat 3584528711), .int .u32 (.ofNat 113926993), .int .u32 (.ofNat 338241895), .int .u32 (.ofNat 666307205), .int .u32 (.ofNat 773529912), .int .u32 (.ofNat 1294757372), .int .u32 (.ofNat 1396182291), .int .u32 (.ofNat 1695183700), .int .u32 (.ofNat 1986661051), .int .u32 (.ofNat 2177026350), .int .u32 (.ofNat 2456956037), .int .u32 (.ofNat 2730485921), .int .u32 (.ofNat 2820302411), .int .u32 (.ofNat 3259730800), .int .u32 (.ofNat 3345764771), .int .u32 (.ofNat 3516065817), .int .u32 (.ofNat 3600352804), .int .u32 (.ofNat 4094571909), .int .u32 (.ofNat 275423344), .int .u32 (.ofNat 430227734), .int .u32 (.ofNat 506948616), .int .u32 (.ofNat 659060556), .int .u32 (.ofNat 883997877), .int .u32 (.ofNat 958139571), .int .u32 (.ofNat 1322822218), .int .u32 (.ofNat 1537002063), .int .u32 (.ofNat 1747873779), .int .u32 (.ofNat 1955562222), .int .u32 (.ofNat 2024104815), .int .u32 (.ofNat 2227730452), .int .u32 (.ofNat 2361852424), .int .u32 (.ofNat 2428436474), .int .u32 (.ofNat 2756734187), .int .u32 (.ofNat 3204031479), .int .u32 (.ofNat 3329325298)]
noncomputable def tab13 : List AV := [.int .u32 (.ofNat 0), .int .u32 (.ofNat 498536548), .int .u32 (.ofNat 997073096), .int .u32 (.ofNat 651767980), .int .u32 (.ofNat 1994146192), .int .u32 (.ofNat 1802195444), .int .u32 (.ofNat 1303535960), .int .u32 (.ofNat 1342533948), .int .u32 (.ofNat 3988292384), .int .u32 (.ofNat 4027552580), .int .u32 (.ofNat 3604390888), .int .u32 (.ofNat 3412177804), .int .u32 (.ofNat 2607071920), .int .u32 (.ofNat 2262029012), .int .u32 (.ofNat 2685067896), .int .u32 (.ofNat 3183342108)]
noncomputable def gcF (g off : Nat) : Option AV := bif Nat.beq g 0 then nth tab0 off else bif Nat.beq g 2 then nth tab2 off else bif Nat.beq g 7 then nth tab7 off else bif Nat.beq g 8 then nth tab8 off else bif Nat.beq g 11 then nth tab11 off else bif Nat.beq g 12 then nth tab12 off else bif Nat.beq g 13 then nth tab13 off else none
noncomputable def hintF (f id : Nat) : Nat := bif Nat.beq f 573 then (bif Nat.beq id 13 then 1152 else 0) else bif Nat.beq f 572 then (bif Nat.beq id 0 then 1152 else 0) else bif Nat.beq f 345 then (bif Nat.beq id 5 then 1 else 0) else bif Nat.beq f 334 then (bif Nat.beq id 23 then 262144 else 0) else bif Nat.beq f 333 then (bif Nat.beq id 4 then 131072 else 0) else bif Nat.beq f 262 then (bif Nat.beq id 1 then 512 else 0) else bif Nat.beq f 243 then (bif Nat.beq id 6 then 8 else 0) else bif Nat.beq f 242 then (bif Nat.beq id 2 then 2048 else 0) else bif Nat.beq f 240 then (bif Nat.beq id 3 then 262144 else 0) else bif Nat.beq f 239 then (bif Nat.beq id 12 then 4096 else 0) else bif Nat.beq f 238 then (bif Nat.beq id 32 then 8192 else 0) else bif Nat.beq f 238 then (bif Nat.beq id 4 then 64 else 0) else bif Nat.beq f 237 then (bif Nat.beq id 4 then 262144 else 0) else bif Nat.beq f 230 then (bif Nat.beq id 6 then 1024 else 0) else bif Nat.beq f 207 then (bif Nat.beq id 17 then 2048 else 0) else bif Nat.beq f 99 then (bif Nat.beq id 3 then 1024 else 0) else bif Nat.beq f 78 then (bif Nat.beq id 3 then 128 else 0) else bif Nat.beq f 41 then (bif Nat.beq id 11 then 64 else 0) else bif Nat.beq f 35 then (bif Nat.beq id 5 then 128 else 0) else bif Nat.beq f 22 then (bif Nat.beq id 9 then 256 else 0) else bif Nat.beq f 21 then (bif Nat.beq id 8 then 512 else 0) else 0
noncomputable def cx : Cx := ⟨Tryz.prog, 100, gcF, extF, hintF⟩
noncomputable def srtF (f : FuncId) : Option (FuncId → Option TypeId) := bif Nat.beq f 167 then some (fun g => bif Nat.beq g 269 then some 9 else none) else none
noncomputable def purF (f : FuncId) : Option (List AV → Option AV) := bif Nat.beq f 117 then some idxK else bif Nat.beq f 522 then some rotK else none
noncomputable def ofmF (_ : FuncId) : Option (List (AV × AV × Nat) → Option AV) := none
noncomputable def genF (f : FuncId) : Option (List AV → Mem → Option (AV × Mem)) := bif Nat.beq f 75 then some joinK else none
noncomputable def kn : Kn := ⟨srtF, purF, ofmF, genF⟩
end
end Go.Proofs.YtbfoocginkdmcaaGreatDoor

/-
  From the rows' conditions to what the evaluator may read.
-/

set_option linter.unusedVariables false
namespace Go.Ev
open Go Go.RowKit
noncomputable section

/- ### From the rows' conditions to what the evaluator may read -/
def CellIs (W : World) (g off : Nat) (v : AV) : Prop := ∃ x, (∀ (G : Nat → Nat) (ρ : Env), den G ρ v = some x) ∧ W.cell? ⟨g, off, none⟩ = some x ∧ g < W.heap.size

theorem lt_of_cell {W : World} {g off : Nat} {x : Value} (h : W.cell? ⟨g, off, none⟩ = some x) : g < W.heap.size := by
  rcases Nat.lt_or_ge g W.heap.size with h' | h'
  · exact h'
  · simp [World.cell?, Array.getElem?_eq_none h'] at h

theorem tab_cell {P : Program} {W : World} {name : String} {k : IntKind} {zs : List Int} {g : Nat} (hg : P.globalNamed name = some g) (h : Lib.TabIs P W name k zs) {off : Nat} {v : AV}
    (hn : nth (zs.map (AV.int k)) off = some v) : CellIs W g off v := by
  rw [nth_eq, List.getElem?_map, Option.map_eq_some_iff] at hn
  obtain ⟨z, hz, rfl⟩ := hn
  have := World.var?_cell hg h off
  have hc : W.cell? ⟨g, off, none⟩ = some (.int k z) := by rw [this]; simp [hz]
  exact ⟨_, fun _ _ => rfl, hc, lt_of_cell hc⟩

def strAV (l : List UInt8) : AV := .str l.length (pack l)

def StrsIs (P : Program) (w : World) (name : String) (ls : List (List UInt8)) : Prop := w.var? P name = some (ls.map fun l => Value.string ⟨l.toArray⟩).toArray

theorem str_cell {P : Program} {W : World} {name : String} {ls : List (List UInt8)} {g : Nat} (hg : P.globalNamed name = some g) (h : StrsIs P W name ls) {off : Nat} {v : AV}
    (hn : nth (ls.map strAV) off = some v) : CellIs W g off v := by
  rw [nth_eq, List.getElem?_map, Option.map_eq_some_iff] at hn
  obtain ⟨z, hz, rfl⟩ := hn
  have := World.var?_cell hg h off
  have hc : W.cell? ⟨g, off, none⟩ = some (.string ⟨z.toArray⟩) := by rw [this]; simp [hz]
  exact ⟨_, fun _ _ => by simp [strAV, den, mkB, bytesL_pack], hc, lt_of_cell hc⟩

theorem cells_of_strs {H : Type} {enc : TypeId × Value → H} {P : Program} {w : World} {base : Nat} {sp : Nat → Bool} {held : Bool} {fuel : Nat} {t e : TypeId} {n : Nat} {cs : List Value} {ls : List (List UInt8)} {p : List MemPlace}
    (ht : P.underlying t = some (.array n e)) (he : P.underlying e = some .string) (hce : P.cellsOf e = 1) (hct : P.cellsOf t = n)
    (h : DataW.trod enc P w base sp held fuel t cs = some (.agg (ls.map fun l => .lit (.string l)), p)) : cs = ls.map fun l => Value.string ⟨l.toArray⟩ := by
  cases fuel with
  | zero => simp [DataW.trod] at h
  | succ fuel =>
    simp only [DataW.trod, ht, hce, hct, Nat.mul_one] at h
    split at h
    · rename_i hl
      obtain ⟨xs, hm, hx⟩ := Option.map_eq_some_iff.1 h
      have hxs : xs.map (·.1) = ls.map fun l => (DataW.lit (.string l) : DataW H) := by
        have := congrArg Prod.fst hx
        simpa using this
      have hxl : xs.length = n := by simpa using Lib.mapM_length hm
      have hzl : ls.length = n := by
        have := congrArg List.length hxs
        simp at this
        omega
      apply List.ext_getElem?
      intro i
      by_cases hi : i < n
      · obtain ⟨b, hb, hf⟩ := Lib.mapM_at hm i i (by simp [hi])
        obtain ⟨z, hc, rfl, _⟩ := DataW.trod_string he hf
        have h1 : cs[i]? = some (.string z) := by
          have := congrArg (·[0]?) hc
          simpa [List.getElem?_take, List.getElem?_drop] using this
        have h2 : (xs.map (·.1))[i]? = some (DataW.lit (.string z.data.toList) : DataW H) := by simp [hb]
        rw [hxs] at h2
        simp only [List.getElem?_map, Option.map_eq_some_iff, DataW.lit.injEq, Lit.string.injEq] at h2
        obtain ⟨z', hz', rfl⟩ := h2
        simp [h1, hz']
      · rw [List.getElem?_eq_none (by omega), List.getElem?_eq_none (by simp; omega)]
    · cases h

theorem strs_of_head {P : Program} {W : World} {name : String} {ls : List (List UInt8)} {rest : List (String × DataW Unit)} {g : Nat} {t e : TypeId} {n : Nat}
    (hg : P.globalNamed name = some g) (hty : (P.globals[g]?).map (·.type) = some t) (ht : P.underlying t = some (.array n e)) (he : P.underlying e = some .string) (hce : P.cellsOf e = 1) (hct : P.cellsOf t = n)
    (h : laidMet P ((name, .agg (ls.map fun l => .lit (.string l))) :: rest) W) : StrsIs P W name ls := by
  obtain ⟨ps, ⟨g', t', cs, fuel, p, q, hg', ht', hvar, hd, _, _⟩, _⟩ := h
  obtain rfl := Option.some.inj (hg.symm.trans hg')
  obtain rfl := Option.some.inj (hty.symm.trans ht')
  unfold StrsIs
  rw [hvar, ← cells_of_strs ht he hce hct hd]

/-- Where the sentinels lie: for sentinel i (from 100 on), its address. -/
def Gs (l : List (Nat × Nat)) (n : Nat) : Nat :=
  if n < 100 then n else if n < 1000000 then (l[n - 100]?.map (·.1)).getD 0 else if n < 1000100 then 0 else (l[n - 1000100]?.map (·.2)).getD 0

theorem Gs_glob (l : List (Nat × Nat)) {g : Nat} (h : g < 100) : Gs l g = g ∧ Gs l (1000000 + g) = 0 := by
  unfold Gs
  rw [if_pos h, if_neg (by omega), if_neg (by omega), if_pos (by omega)]
  exact ⟨rfl, rfl⟩

theorem Gs_at (l : List (Nat × Nat)) {i : Nat} (hi : i < 1000) {b o : Nat} (h : l[i]? = some (b, o)) : Gs l (100 + i) = b ∧ Gs l (1000000 + (100 + i)) = o := by
  unfold Gs
  rw [if_neg (by omega), if_pos (by omega), if_neg (by omega), if_neg (by omega), if_neg (by omega)]
  rw [show 100 + i - 100 = i from by omega, show 1000000 + (100 + i) - 1000100 = i from by omega, h]
  exact ⟨rfl, rfl⟩

theorem glob_cell {G : Nat → Nat} {W : World} {g off : Nat} {v : AV} (hG : G g = g ∧ G (1000000 + g) = 0) (h : CellIs W g off v) :
    ∃ x, (∀ ρ, den G ρ v = some x) ∧ W.cell? ⟨G g, G (1000000 + g) + off, none⟩ = some x ∧ G g < W.heap.size := by
  obtain ⟨x, h1, h2, h3⟩ := h
  rw [hG.1, hG.2, Nat.zero_add]
  exact ⟨x, h1 G, h2, h3⟩

/-- A sentinel. -/
theorem sent_cell {P : Program} {W : World} {name : String} {tp : TypeId} {b o g : Nat} (hg : P.globalNamed name = some g) (hv : W.var? P name = some #[.iface tp (.pointer (some ⟨b, o, none⟩))])
    {G : Nat → Nat} {i : Nat} (hG : G g = g ∧ G (1000000 + g) = 0) (hi : G (100 + i) = b ∧ G (1000000 + (100 + i)) = o) {off : Nat} {v : AV} (hn : nth [AV.iface tp (.gptr (100 + i) 0)] off = some v) :
    ∃ x, (∀ ρ, den G ρ v = some x) ∧ W.cell? ⟨G g, G (1000000 + g) + off, none⟩ = some x ∧ G g < W.heap.size := by
  rw [nth_eq] at hn
  cases off with
  | succ _ => simp at hn
  | zero =>
    simp only [List.getElem?_cons_zero, Option.some.injEq] at hn
    subst hn
    have hc : W.cell? ⟨g, 0, none⟩ = some (.iface tp (.pointer (some ⟨b, o, none⟩))) := by rw [World.var?_cell hg hv 0]; rfl
    rw [hG.1, hG.2]
    refine ⟨_, fun ρ => by simp [den, hi.1, hi.2], hc, lt_of_cell hc⟩

/-- Where a sentinel is. -/
theorem sent_at {P : Program} {n nm : String} {text : List UInt8} {r : List (String × DataW Unit)} {W : World} {g : Nat} {ti tp te ts : TypeId} {ms : Array (String × TypeId)} {f : Field}
    (h : laidMet P ((n, .iface nm (.ptr (.agg [.lit (.string text)]))) :: r) W)
    (hg : P.globalNamed n = some g) (ht : (P.globals[g]?).map (·.type) = some ti) (hi : P.underlying ti = some (.interface ms)) (hrow : ∀ u, P.typeName? 3 u = some nm → u = tp)
    (hp : P.underlying tp = some (.pointer te)) (he : P.underlying te = some (.struct #[f])) (hft : f.type = ts) (hfo : f.offset = 0) (hs : P.underlying ts = some .string) (hc : P.cellsOf te = 1) (hcs : P.cellsOf ts = 1) :
    ∃ b o, W.var? P n = some #[.iface tp (.pointer (some ⟨b, o, none⟩))] := by
  obtain ⟨a, s, h1, h2, _, _⟩ := laid_sentinel h hg ht hi hrow hp he hft hfo hs hc hcs
  obtain ⟨b, o, spot⟩ := a
  have hspot : spot = none := World.cell?_spot h2
  subst hspot
  exact ⟨b, o, h1⟩
end
end Go.Ev

/-
  From the rows' conditions to what the evaluator may read: package-level variables of numbers, truths and texts in arrays and structs.
-/

set_option linter.unusedVariables false
namespace Go.Ev
open Go Go.RowKit
noncomputable section

def flatN {H : Type} : Nat → DataW H → Option (List Value)
  | 0, _ => none
  | n + 1, .lit (.int k z) => some [.int k z]
  | n + 1, .lit (.bool b) => some [.bool b]
  | n + 1, .lit (.string l) => some [.string ⟨l.toArray⟩]
  | n + 1, .agg ps => (ps.mapM (flatN n)).map List.flatten
  | n + 1, _ => none

def tileF (P : Program) (k : TypeId → Bool) : List Field → Nat → Nat → Bool
  | [], off, total => Nat.beq off total
  | f :: fs, off, total => Nat.beq f.offset off && k f.type && tileF P k fs (off + P.cellsOf f.type) total

def tileN (P : Program) : Nat → TypeId → Bool
  | 0, _ => false
  | m + 1, t => match P.underlying t with
    | some .bool => true
    | some (.int _) => true
    | some .string => true
    | some (.array n e) => Nat.beq (P.cellsOf t) (n * P.cellsOf e) && tileN P m e
    | some (.struct fs) => tileF P (tileN P m) fs.toList 0 (P.cellsOf t)
    | _ => false

theorem slices_flat {α : Type} (k : Nat) : ∀ (n : Nat) (cs : List α), cs.length = n * k → ((List.range n).map fun i => (cs.drop (i * k)).take k).flatten = cs
  | 0, cs, h => by
    have : cs = [] := List.length_eq_zero_iff.1 (by omega)
    subst this
    rfl
  | n + 1, cs, h => by
    rw [List.range_succ_eq_map, List.map_cons, List.flatten_cons, List.map_map]
    have h1 : (List.map ((fun i => (cs.drop (i * k)).take k) ∘ Nat.succ) (List.range n)) = (List.range n).map fun i => ((cs.drop k).drop (i * k)).take k := by
      apply List.map_congr_left
      intro i _
      simp only [Function.comp, List.drop_drop]
      rw [show k + i * k = i.succ * k from by rw [Nat.succ_mul]; omega]
    rw [h1, slices_flat k n (cs.drop k) (by rw [List.length_drop, h, Nat.succ_mul]; omega)]
    simp

theorem fields_flat {P : Program} {k : TypeId → Bool} {cs : List Value} : ∀ (fs : List Field) (off : Nat), tileF P k fs off cs.length = true →
    (fs.map fun f => (cs.drop f.offset).take (P.cellsOf f.type)).flatten = cs.drop off ∧ ∀ f ∈ fs, k f.type = true
  | [], off, h => by
    have := Nat.eq_of_beq_eq_true h
    subst this
    simp
  | f :: fs, off, h => by
    simp only [tileF, Bool.and_eq_true] at h
    obtain ⟨⟨h1, h2⟩, h3⟩ := h
    have h1 := Nat.eq_of_beq_eq_true h1
    obtain ⟨h4, h5⟩ := fields_flat fs _ h3
    refine ⟨?_, ?_⟩
    · rw [List.map_cons, List.flatten_cons, h4, h1, ← List.drop_drop]
      exact List.take_append_drop _ _
    · intro g hg
      rcases List.mem_cons.1 hg with rfl | hg
      · exact h2
      · exact h5 g hg

theorem flat_trod {H : Type} {enc : TypeId × Value → H} {P : Program} {w : World} {base : Nat} {sp : Nat → Bool} {held : Bool} : ∀ (m fuel n : Nat) (t : TypeId) (cs : List Value) (d : DataW H) (p : List MemPlace) (vs : List Value),
    tileN P m t = true → DataW.trod enc P w base sp held fuel t cs = some (d, p) → flatN n d = some vs → cs = vs
  | 0, _, _, _, _, _, _, _, ht, _, _ => by simp [tileN] at ht
  | m + 1, 0, _, _, _, _, _, _, _, h, _ => by simp [DataW.trod] at h
  | m + 1, fuel + 1, 0, _, _, _, _, _, _, _, hf => by simp [flatN] at hf
  | m + 1, fuel + 1, n + 1, t, cs, d, p, vs, ht, h, hf => by
    cases hu : P.underlying t with
    | none => simp [tileN, hu] at ht
    | some u =>
      cases u with
      | bool =>
        obtain ⟨b2, rfl, hx⟩ := DataW.trod_bool hu h
        simp only [Prod.mk.injEq] at hx
        obtain ⟨rfl, _⟩ := hx
        simpa [flatN] using hf
      | int k =>
        obtain ⟨z, rfl, hx, _⟩ := DataW.trod_int hu h
        simp only [Prod.mk.injEq] at hx
        obtain ⟨rfl, _⟩ := hx
        simpa [flatN] using hf
      | string =>
        obtain ⟨z, rfl, hx, _⟩ := DataW.trod_string hu h
        simp only [Prod.mk.injEq] at hx
        obtain ⟨rfl, _⟩ := hx
        simpa [flatN] using hf
      | array N e =>
        simp only [tileN, hu, Bool.and_eq_true] at ht
        obtain ⟨ht1, ht2⟩ := ht
        have ht1 := Nat.eq_of_beq_eq_true ht1
        simp only [DataW.trod, hu] at h
        split at h
        · rename_i hl
          obtain ⟨xs, hm, hx⟩ := Option.map_eq_some_iff.1 h
          obtain rfl : (.agg (xs.map (·.1)) : DataW H) = d := congrArg Prod.fst hx
          simp only [flatN] at hf
          obtain ⟨vss, hv, rfl⟩ := Option.map_eq_some_iff.1 hf
          have e : vss = (List.range N).map fun i => (cs.drop (i * P.cellsOf e)).take (P.cellsOf e) := by
            have hxl : xs.length = N := by simpa using Lib.mapM_length hm
            have hvl : vss.length = N := by simpa [hxl] using Lib.mapM_length hv
            apply List.ext_getElem?
            intro i
            by_cases hi : i < N
            · obtain ⟨b, hb, hf⟩ := Lib.mapM_at hm i i (by simp [hi])
              obtain ⟨v, hv1, hv2⟩ := Lib.mapM_at hv i b.1 (by simp [hb])
              have := flat_trod m fuel n e _ b.1 b.2 v ht2 hf hv2
              rw [hv1, ← this]
              simp [hi]
            · rw [List.getElem?_eq_none (by omega), List.getElem?_eq_none (by simp; omega)]
          rw [e, slices_flat _ _ _ (by rw [hl, ht1])]
        · cases h
      | struct fs =>
        simp only [tileN, hu] at ht
        simp only [DataW.trod, hu] at h
        split at h
        · rename_i hl
          obtain ⟨xs, hm, hx⟩ := Option.map_eq_some_iff.1 h
          obtain rfl : (.agg (xs.map (·.1)) : DataW H) = d := congrArg Prod.fst hx
          simp only [flatN] at hf
          obtain ⟨vss, hv, rfl⟩ := Option.map_eq_some_iff.1 hf
          rw [← hl] at ht
          obtain ⟨h4, h5⟩ := fields_flat fs.toList 0 ht
          have e : vss = fs.toList.map fun f => (cs.drop f.offset).take (P.cellsOf f.type) := by
            have hxl : xs.length = fs.toList.length := Lib.mapM_length hm
            have hvl : vss.length = fs.toList.length := by simpa [hxl] using Lib.mapM_length hv
            apply List.ext_getElem?
            intro i
            by_cases hi : i < fs.toList.length
            · obtain ⟨b, hb, hf⟩ := Lib.mapM_at hm i fs.toList[i] (by simp)
              obtain ⟨v, hv1, hv2⟩ := Lib.mapM_at hv i b.1 (by simp [hb])
              have := flat_trod m fuel n _ _ b.1 b.2 v (h5 _ (List.getElem_mem hi)) hf hv2
              rw [hv1, ← this]
              simp [List.getElem?_map, List.getElem?_eq_getElem hi]
            · rw [List.getElem?_eq_none (by omega), List.getElem?_eq_none (by rw [List.length_map]; omega)]
          rw [e, h4]
          rfl
        · cases h
      | _ => simp [tileN, hu] at ht

/- ### What the evaluator reads -/
def litV : AV → Option Value
  | .bool b => some (.bool b)
  | .int k n => some (.int k n)
  | .str n b => some (.string (mkB n b))
  | _ => none

theorem litV_den {v : AV} {x : Value} (h : litV v = some x) (G : Nat → Nat) (ρ : Env) : den G ρ v = some x := by
  cases v <;> simp_all [litV, den]

def LitsIs (P : Program) (w : World) (name : String) (tab : List AV) : Prop := ∃ vs, w.var? P name = some (vs : List Value).toArray ∧ tab.mapM litV = some vs

theorem lits_of_head {P : Program} {W : World} {name : String} {d : DataW Unit} {tab : List AV} {rest : List (String × DataW Unit)} {g : Nat} {t : TypeId}
    (hg : P.globalNamed name = some g) (hty : (P.globals[g]?).map (·.type) = some t) (ht : tileN P 9 t = true) (he : flatN 9 d = tab.mapM litV) (hs : (tab.mapM litV).isSome = true)
    (h : laidMet P ((name, d) :: rest) W) : LitsIs P W name tab := by
  obtain ⟨ps, ⟨g', t', cs, fuel, p, q, hg', ht', hvar, hd, _, _⟩, _⟩ := h
  obtain rfl := Option.some.inj (hg.symm.trans hg')
  obtain rfl := Option.some.inj (hty.symm.trans ht')
  obtain ⟨vs, hvs⟩ := Option.isSome_iff_exists.1 hs
  refine ⟨vs, ?_, hvs⟩
  rw [hvar]
  have := flat_trod 9 fuel 9 _ cs.toList d p vs ht hd (he.trans hvs)
  rw [← this]

theorem lits_cell {P : Program} {W : World} {name : String} {tab : List AV} {g : Nat} (hg : P.globalNamed name = some g) (h : LitsIs P W name tab) {off : Nat} {v : AV}
    (hn : nth tab off = some v) : CellIs W g off v := by
  obtain ⟨vs, h1, h2⟩ := h
  rw [nth_eq] at hn
  obtain ⟨x, hx, hv⟩ := Lib.mapM_at h2 off v hn
  have hc : W.cell? ⟨g, off, none⟩ = some x := by rw [World.var?_cell hg h1 off]; simpa using hx
  exact ⟨x, fun G ρ => litV_den hv G ρ, hc, lt_of_cell hc⟩
end
end Go.Ev
