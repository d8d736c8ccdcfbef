/-
  The server's Print.
-/
import Derived.Test.YtbfoocginkdmcaaGreatDoorWD
import Derived.Test.YtbfoocginkdmcaaGreatDoorWA
import Derived.Deep.AppendLies
import Derived.Test.YtbfoocginkdmcaaGreatDoorRows

set_option linter.unusedVariables false
set_option maxRecDepth 100000
set_option maxHeartbeats 8000000
namespace Go.Proofs.YtbfoocginkdmcaaGreatDoor
open Go Go.RowKit Go.Basic Go.ArgS Go.Scr Go.Lib
theorem others_block {w w' : World} {bk k : Nat} {c : Array Value} (h : OthersKept 5 (some bk) w w') (hk : w.heap[k]? = some (.cells c 36 (0, 0))) (hne : k ≠ bk) : w'.heap[k]? = some (.cells c 36 (0, 0)) :=
  h k _ hk (by simpa using hne) (fun c' fz e => by simp at e)
theorem builder_lt {B b : Nat} {bs : List Value} {w : World} (h : IsBuilderF 83 5 B b bs w) : b < w.heap.size := h.elim (fun x => x.lt) (fun x => x.lt)
theorem print_step_below {wr w2 w3 : World} {o1 o2 : Obj} (h2 : Below (wr.alloc o1).heap.size (wr.alloc o1) w2) (h3 : Below (w2.alloc o2).heap.size (w2.alloc o2) w3) : Below wr.heap.size wr w3 := by
  have hs : (wr.alloc o1).heap.size = wr.heap.size + 1 := by simp
  have hs2 : (w2.alloc o2).heap.size = w2.heap.size + 1 := by simp
  have h4 := h2.size
  exact ((((Below.refl wr.heap.size wr).alloc (Nat.le_refl _) o1).trans (h2.mono (by omega))).alloc (by omega) o2).trans (h3.mono (by omega))
theorem print_step_block {w2 w3 : World} {o2 : Obj} {g : Nat} {x : Obj} (h : w2.heap[g]? = some x) (h3 : Below (w2.alloc o2).heap.size (w2.alloc o2) w3) : w3.heap[g]? = some x := by
  have hl : g < w2.heap.size := by
    rcases Nat.lt_or_ge g w2.heap.size with h' | h'
    · exact h'
    · rw [Array.getElem?_eq_none h'] at h; cases h
  exact (h3.block g (by simp; omega)).trans ((Below.heap_alloc w2 o2 g hl).trans h)
theorem print_size {S : ByteArray} {aa : List PAct} {k : Nat} {n : Nat} (hS : S.size = n) (h : (script (aa.take k)).length + n + 1 ≤ 100000000) : (byteCells (script (aa.take k))).length + (S ++ ⟨#[10]⟩).size ≤ 140737488355328 := by
  rw [byteCells_length, ByteArray.size_append]
  have h1 : (⟨#[10]⟩ : ByteArray).size = 1 := rfl
  omega
theorem print_calls (v : Value) (aa : List PAct) (w : World) (h : IsActs w v aa) (hf : ∀ a ∈ aa, Fits a) (hl : aa.length ≤ 1100000) (hT : (script aa).length ≤ 100000000) (htab : Tab w) :
    Calls Tryz.prog 19 #[v] w (PrintOut w aa) := by
  obtain ⟨oa, cap, rfl⟩ := h.slice
  by_cases hlen : 4096 < aa.length
  · have hlen' : (4096 : Int) < (aa.length : Int) := by omega
    go_enter Tryz.func19, Tryz.ntmps19
    go_wp2
    go_ret2
    unfold PrintOut
    exact ⟨⟨#[]⟩, by simp [printS, hlen], by simp [printS, hlen], Below.refl _ _⟩
  · have hlen' : ¬ (4096 : Int) < (aa.length : Int) := by omega
    have hlenI : (aa.length : Int) ≤ 9223372036854775807 := by omega
    go_enter Tryz.func19, Tryz.ntmps19
    go_wp2
    have hI0 : IsBuilderF 83 5 w.heap.size w.heap.size (byteCells (script (aa.take 0))) (w.alloc (.cells #[.pointer none, .slice none 0 0] 83)) := IsBuilderF.of (fresh_isBuilder 83 5 w)
    go_loopw [5, 15] (fun wd i wr => ∃ (k : Nat) (wb : Bool), k ≤ aa.length ∧ i = .int .i64 k ∧ wd = .bool wb ∧ Hid (wb = (aa.take k).any wideA) ∧ Hid (∀ a ∈ aa.take k, okA a = true) ∧ IsBuilderF 83 5 w.heap.size w.heap.size (byteCells (script (aa.take k))) wr ∧ Below w.heap.size w wr) (fun _ i _ => aa.length - (intOf i).toNat)
    case atStart => exact ⟨0, false, Nat.zero_le _, rfl, rfl, rfl, (fun a ha => by simp at ha), hI0, (Below.refl _ _).alloc (Nat.le_refl _) _⟩
    case round =>
      clear hI0
      obtain ⟨k, wb, hk, rfl, rfl, hwb, hok, hI, hbw⟩ := hrel
      by_cases hlt : k < aa.length
      · have hlt' : (k : Int) < (aa.length : Int) := by omega
        obtain ⟨a, ha⟩ : ∃ a, aa[k]? = some a := ⟨aa[k], List.getElem?_eq_getElem hlt⟩
        obtain ⟨b, off, cap', ax, cx, ay, cy, ev, c0, c1, c2, c3, c4, c5, c6, c7, hx, hy⟩ := h.at ha
        cases ev
        have hfa := hf a (List.mem_of_getElem? ha)
        have hbl : b < w.heap.size := World.block_lt_of_cell? w _ c0
        have g0 := (hbw.cell (p := ⟨b, off + k * 8, none⟩) hbl).trans c0
        have g1 := (hbw.cell (p := ⟨b, off + k * 8 + 1, none⟩) hbl).trans c1
        have g2 := (hbw.cell (p := ⟨b, off + k * 8 + 2, none⟩) hbl).trans c2
        have g3 := (hbw.cell (p := ⟨b, off + k * 8 + 3, none⟩) hbl).trans c3
        have g4 := (hbw.cell (p := ⟨b, off + k * 8 + 4, none⟩) hbl).trans c4
        have g5 := (hbw.cell (p := ⟨b, off + k * 8 + 5, none⟩) hbl).trans c5
        have g6 := (hbw.cell (p := ⟨b, off + k * 8 + 6, none⟩) hbl).trans c6
        have g7 := (hbw.cell (p := ⟨b, off + k * 8 + 7, none⟩) hbl).trans c7
        clear c0 c1 c2 c3 c4 c5 c6 c7
        have bW1 : Below w.heap.size w (wr.alloc (.cells (actCells a ax cx ay cy).toArray 36)) := hbw.alloc hbw.size _
        have hcall := line_calls _ a _ ⟨ax, cx, ay, cy, rfl, hx.below bW1, hy.below bW1⟩ hfa (tab_below htab bW1)
        have hbk := builder_lt hI
        have hwle := hbw.size
        have hst := script_take aa k ha
        have hsl := script_len_take aa (k + 1)
        rw [hst] at hsl
        simp only [List.length_append, List.length_cons, List.length_nil] at hsl
        have hln : (lineS a).length ≤ 100000000 := by omega
        have hln2 : (script (aa.take k)).length + (lineS a).length + 1 ≤ 100000000 := by omega
        clear hst hsl
        cases hoa : okA a with
        | false =>
          go_wp2_with (first
            | (go_at_call 35; refine hcall.mono ?_; clear hcall; rintro e w2 ⟨S, tv, rfl, hS, htold, bel2⟩; (obtain ⟨k', t', o', n', q', s', x', y', d', q1, l', q2, rfl, hwh⟩ := htold); rw [hoa] at hwh; (have hSz := size_of_list hS); (have hSh : Hid (S.data.toList = lineS a) := hS); clear hS; (have f36 := fun W => whole_calls a.kind k' a.now t' a.outcome o' a.n n' a.dir q' a.raw s' ax x' ay y' a.draws.length d' cx q1 a.tails.length l' cy q2 W); simp only [hwh] at f36; clear hwh; (have hblk2 : w2.heap[wr.heap.size]? = some (.cells (actCells a ax cx ay cy).toArray 36 (0, 0)) := (bel2.block _ (by simp)).trans (heap_alloc_new _ _)); (have d0 : w2.cell? ⟨wr.heap.size, 0, none⟩ = some (.int .i64 a.kind) := cell_of_row w2 _ 0 _ 36 _ hblk2); (have d1 : w2.cell? ⟨wr.heap.size, 1, none⟩ = some (.string a.raw) := cell_of_row w2 _ 1 _ 36 _ hblk2); (have d2 : w2.cell? ⟨wr.heap.size, 2, none⟩ = some (.slice ax a.draws.length cx) := cell_of_row w2 _ 2 _ 36 _ hblk2); (have d3 : w2.cell? ⟨wr.heap.size, 3, none⟩ = some (.int .u64 (a.now : Int)) := cell_of_row w2 _ 3 _ 36 _ hblk2); (have d4 : w2.cell? ⟨wr.heap.size, 4, none⟩ = some (.int .i64 a.outcome) := cell_of_row w2 _ 4 _ 36 _ hblk2); (have d5 : w2.cell? ⟨wr.heap.size, 5, none⟩ = some (.int .i64 a.n) := cell_of_row w2 _ 5 _ 36 _ hblk2); (have d6 : w2.cell? ⟨wr.heap.size, 6, none⟩ = some (.int .i64 a.dir) := cell_of_row w2 _ 6 _ 36 _ hblk2); (have d7 : w2.cell? ⟨wr.heap.size, 7, none⟩ = some (.slice ay a.tails.length cy) := cell_of_row w2 _ 7 _ 36 _ hblk2); (have hlt2 : wr.heap.size < w2.heap.size := Nat.lt_of_lt_of_le (by simp) bel2.size); (have y1 : ¬ 9223372036854775807 < S.size + 1 := by omega))
            | (go_at_call 36; refine (f36 _).mono ?_; clear f36; rintro e w3 ⟨rfl, bel3⟩; (have b13 := print_step_below bel2 bel3); (have hblk3 := print_step_block hblk2 bel3); (have hI3 := builder_below hI b13); (have b3 : Below w.heap.size w w3 := hbw.trans (b13.mono hwle)); (have hsz3 := print_size (S := S) (k := k) (aa := aa) hSz hln2); (have hws3 := b3.size)))
          go_ret2
          unfold PrintOut
          have hall : aa.all okA = false := List.all_eq_false.2 ⟨a, List.mem_of_getElem? ha, by simp [hoa]⟩
          exact ⟨⟨#[]⟩, by simp [printS, hlen, hall], by simp [printS, hlen, hall], b3⟩
        | true =>
          have hrl : a.raw.data.toList.length ≤ 10000000 := by have := hfa.raw; simp; omega
          obtain ⟨gc, bw, hbb⟩ := bytes_of a.raw
          have hconv := fun w0 => (hbb w0).1
          have hB := fun w0 => (hbb w0).2.1
          have hBel := fun w0 => (hbb w0).2.2
          clear hbb
          cases wb with
          | true =>
            go_wp2_with (first
              | (go_at_call 35; refine hcall.mono ?_; clear hcall; rintro e w2 ⟨S, tv, rfl, hS, htold, bel2⟩; (obtain ⟨k', t', o', n', q', s', x', y', d', q1, l', q2, rfl, hwh⟩ := htold); rw [hoa] at hwh; (have hSz := size_of_list hS); (have hSh : Hid (S.data.toList = lineS a) := hS); clear hS; (have f36 := fun W => whole_calls a.kind k' a.now t' a.outcome o' a.n n' a.dir q' a.raw s' ax x' ay y' a.draws.length d' cx q1 a.tails.length l' cy q2 W); simp only [hwh] at f36; clear hwh; (have hblk2 : w2.heap[wr.heap.size]? = some (.cells (actCells a ax cx ay cy).toArray 36 (0, 0)) := (bel2.block _ (by simp)).trans (heap_alloc_new _ _)); (have d0 : w2.cell? ⟨wr.heap.size, 0, none⟩ = some (.int .i64 a.kind) := cell_of_row w2 _ 0 _ 36 _ hblk2); (have d1 : w2.cell? ⟨wr.heap.size, 1, none⟩ = some (.string a.raw) := cell_of_row w2 _ 1 _ 36 _ hblk2); (have d2 : w2.cell? ⟨wr.heap.size, 2, none⟩ = some (.slice ax a.draws.length cx) := cell_of_row w2 _ 2 _ 36 _ hblk2); (have d3 : w2.cell? ⟨wr.heap.size, 3, none⟩ = some (.int .u64 (a.now : Int)) := cell_of_row w2 _ 3 _ 36 _ hblk2); (have d4 : w2.cell? ⟨wr.heap.size, 4, none⟩ = some (.int .i64 a.outcome) := cell_of_row w2 _ 4 _ 36 _ hblk2); (have d5 : w2.cell? ⟨wr.heap.size, 5, none⟩ = some (.int .i64 a.n) := cell_of_row w2 _ 5 _ 36 _ hblk2); (have d6 : w2.cell? ⟨wr.heap.size, 6, none⟩ = some (.int .i64 a.dir) := cell_of_row w2 _ 6 _ 36 _ hblk2); (have d7 : w2.cell? ⟨wr.heap.size, 7, none⟩ = some (.slice ay a.tails.length cy) := cell_of_row w2 _ 7 _ 36 _ hblk2); (have hlt2 : wr.heap.size < w2.heap.size := Nat.lt_of_lt_of_le (by simp) bel2.size); (have y1 : ¬ 9223372036854775807 < S.size + 1 := by omega))
              | (go_at_call 36; refine (f36 _).mono ?_; clear f36; rintro e w3 ⟨rfl, bel3⟩; (have b13 := print_step_below bel2 bel3); (have hblk3 := print_step_block hblk2 bel3); (have hI3 := builder_below hI b13); (have b3 : Below w.heap.size w w3 := hbw.trans (b13.mono hwle)); (have hsz3 := print_size (S := S) (k := k) (aa := aa) hSz hln2); (have hws3 := b3.size))
              | (go_at_call 37; (with_reducible refine (writeString_calls w.heap.size w.heap.size (byteCells (script (aa.take k))) (S ++ ⟨#[10]⟩) w3 hI3 hsz3 hws3).mono ?_); rintro e w4 ⟨rfl, hB4, bel4, ok4⟩; (have b4 : Below w.heap.size w w4 := b3.trans bel4); (have hblk4 := others_block ok4 hblk3 (Nat.ne_of_gt hbk)); (have e1 : w4.cell? ⟨wr.heap.size, 1, none⟩ = some (.string a.raw) := cell_of_row w4 _ 1 _ 36 _ hblk4); (have e2 : w4.cell? ⟨wr.heap.size, 2, none⟩ = some (.slice ax a.draws.length cx) := cell_of_row w4 _ 2 _ 36 _ hblk4); (have hlt4 : wr.heap.size < w4.heap.size := block_lt_of_cell e1)))
            have hst2 := script_take aa k ha
            have hrow : byteCells (script (aa.take k)) ++ strCells (S ++ ⟨#[10]⟩) = byteCells (script (aa.take (k + 1))) := by
              rw [hst2, strCells_eq, ByteArray.data_append, Array.toList_append, show S.data.toList = lineS a from hSh]
              simp [byteCells]
            have hI4 : IsBuilderF 83 5 w.heap.size w.heap.size (byteCells (script (aa.take (k + 1)))) w4 := .inr (by rw [← hrow]; exact hB4)
            have hok' : Hid (∀ x ∈ aa.take (k + 1), okA x = true) := fun x hx => (mem_take_succ ha hx).elim (fun h => hok x h) (fun h => by rw [h]; exact hoa)
            have hany' : (aa.take (k + 1)).any wideA = ((aa.take k).any wideA || wideA a) := by rw [List.take_add_one, ha]; simp
            refine ⟨⟨k + 1, true, hlt, (by first | rfl | simp), (by first | rfl | (congr 1; simp; omega)), (by show _ = _; rw [hany', ← show true = _ from hwb]; simp), hok', hI4, b4⟩, ?_⟩
            simp only [intOf]
            omega
          | false =>
            by_cases l1 : 65536 < (word a.draws).length
            · go_wp2_with (first
                | (go_at_call 35; refine hcall.mono ?_; clear hcall; rintro e w2 ⟨S, tv, rfl, hS, htold, bel2⟩; (obtain ⟨k', t', o', n', q', s', x', y', d', q1, l', q2, rfl, hwh⟩ := htold); rw [hoa] at hwh; (have hSz := size_of_list hS); (have hSh : Hid (S.data.toList = lineS a) := hS); clear hS; (have f36 := fun W => whole_calls a.kind k' a.now t' a.outcome o' a.n n' a.dir q' a.raw s' ax x' ay y' a.draws.length d' cx q1 a.tails.length l' cy q2 W); simp only [hwh] at f36; clear hwh; (have hblk2 : w2.heap[wr.heap.size]? = some (.cells (actCells a ax cx ay cy).toArray 36 (0, 0)) := (bel2.block _ (by simp)).trans (heap_alloc_new _ _)); (have d0 : w2.cell? ⟨wr.heap.size, 0, none⟩ = some (.int .i64 a.kind) := cell_of_row w2 _ 0 _ 36 _ hblk2); (have d1 : w2.cell? ⟨wr.heap.size, 1, none⟩ = some (.string a.raw) := cell_of_row w2 _ 1 _ 36 _ hblk2); (have d2 : w2.cell? ⟨wr.heap.size, 2, none⟩ = some (.slice ax a.draws.length cx) := cell_of_row w2 _ 2 _ 36 _ hblk2); (have d3 : w2.cell? ⟨wr.heap.size, 3, none⟩ = some (.int .u64 (a.now : Int)) := cell_of_row w2 _ 3 _ 36 _ hblk2); (have d4 : w2.cell? ⟨wr.heap.size, 4, none⟩ = some (.int .i64 a.outcome) := cell_of_row w2 _ 4 _ 36 _ hblk2); (have d5 : w2.cell? ⟨wr.heap.size, 5, none⟩ = some (.int .i64 a.n) := cell_of_row w2 _ 5 _ 36 _ hblk2); (have d6 : w2.cell? ⟨wr.heap.size, 6, none⟩ = some (.int .i64 a.dir) := cell_of_row w2 _ 6 _ 36 _ hblk2); (have d7 : w2.cell? ⟨wr.heap.size, 7, none⟩ = some (.slice ay a.tails.length cy) := cell_of_row w2 _ 7 _ 36 _ hblk2); (have hlt2 : wr.heap.size < w2.heap.size := Nat.lt_of_lt_of_le (by simp) bel2.size); (have y1 : ¬ 9223372036854775807 < S.size + 1 := by omega))
                | (go_at_call 36; refine (f36 _).mono ?_; clear f36; rintro e w3 ⟨rfl, bel3⟩; (have b13 := print_step_below bel2 bel3); (have hblk3 := print_step_block hblk2 bel3); (have hI3 := builder_below hI b13); (have b3 : Below w.heap.size w w3 := hbw.trans (b13.mono hwle)); (have hsz3 := print_size (S := S) (k := k) (aa := aa) hSz hln2); (have hws3 := b3.size))
                | (go_at_call 37; (with_reducible refine (writeString_calls w.heap.size w.heap.size (byteCells (script (aa.take k))) (S ++ ⟨#[10]⟩) w3 hI3 hsz3 hws3).mono ?_); rintro e w4 ⟨rfl, hB4, bel4, ok4⟩; (have b4 : Below w.heap.size w w4 := b3.trans bel4); (have hblk4 := others_block ok4 hblk3 (Nat.ne_of_gt hbk)); (have e1 : w4.cell? ⟨wr.heap.size, 1, none⟩ = some (.string a.raw) := cell_of_row w4 _ 1 _ 36 _ hblk4); (have e2 : w4.cell? ⟨wr.heap.size, 2, none⟩ = some (.slice ax a.draws.length cx) := cell_of_row w4 _ 2 _ 36 _ hblk4); (have hlt4 : wr.heap.size < w4.heap.size := block_lt_of_cell e1); (have hc1 := coded_calls _ a.draws w4 (hx.below b4) (by have := hfa.draws; omega)))
                | (go_at_call 38; (with_reducible refine hc1.mono ?_); rintro e w5 ⟨S5, rfl, hS5, bel5⟩; (have hz5 := size_of_list hS5); clear hS5; (have t5 : (65536 : Int) < (S5.size : Int) := by omega); (have f1 := (bel5.cell (p := ⟨wr.heap.size, 1, none⟩) hlt4).trans e1); skip))
              have hst2 := script_take aa k ha
              have hrow : byteCells (script (aa.take k)) ++ strCells (S ++ ⟨#[10]⟩) = byteCells (script (aa.take (k + 1))) := by
                rw [hst2, strCells_eq, ByteArray.data_append, Array.toList_append, show S.data.toList = lineS a from hSh]
                simp [byteCells]
              have hI4 : IsBuilderF 83 5 w.heap.size w.heap.size (byteCells (script (aa.take (k + 1)))) w4 := .inr (by rw [← hrow]; exact hB4)
              have hok' : Hid (∀ x ∈ aa.take (k + 1), okA x = true) := fun x hx => (mem_take_succ ha hx).elim (fun h => hok x h) (fun h => by rw [h]; exact hoa)
              have hany' : (aa.take (k + 1)).any wideA = ((aa.take k).any wideA || wideA a) := by rw [List.take_add_one, ha]; simp
              refine ⟨⟨k + 1, true, hlt, (by first | rfl | simp), (by first | rfl | (congr 1; simp; omega)), (by show _ = _; rw [hany', ← show false = _ from hwb]; have h3 : wideA a = true := (by unfold wideA; simp; omega); rw [h3]; simp), hok', (builder_below hI4 bel5), (b4.trans (bel5.mono b4.size))⟩, ?_⟩
              simp only [intOf]
              omega
            · by_cases l2 : 65536 < (word a.raw.data.toList).length
              · go_wp2_with (first
                  | (go_at_call 35; refine hcall.mono ?_; clear hcall; rintro e w2 ⟨S, tv, rfl, hS, htold, bel2⟩; (obtain ⟨k', t', o', n', q', s', x', y', d', q1, l', q2, rfl, hwh⟩ := htold); rw [hoa] at hwh; (have hSz := size_of_list hS); (have hSh : Hid (S.data.toList = lineS a) := hS); clear hS; (have f36 := fun W => whole_calls a.kind k' a.now t' a.outcome o' a.n n' a.dir q' a.raw s' ax x' ay y' a.draws.length d' cx q1 a.tails.length l' cy q2 W); simp only [hwh] at f36; clear hwh; (have hblk2 : w2.heap[wr.heap.size]? = some (.cells (actCells a ax cx ay cy).toArray 36 (0, 0)) := (bel2.block _ (by simp)).trans (heap_alloc_new _ _)); (have d0 : w2.cell? ⟨wr.heap.size, 0, none⟩ = some (.int .i64 a.kind) := cell_of_row w2 _ 0 _ 36 _ hblk2); (have d1 : w2.cell? ⟨wr.heap.size, 1, none⟩ = some (.string a.raw) := cell_of_row w2 _ 1 _ 36 _ hblk2); (have d2 : w2.cell? ⟨wr.heap.size, 2, none⟩ = some (.slice ax a.draws.length cx) := cell_of_row w2 _ 2 _ 36 _ hblk2); (have d3 : w2.cell? ⟨wr.heap.size, 3, none⟩ = some (.int .u64 (a.now : Int)) := cell_of_row w2 _ 3 _ 36 _ hblk2); (have d4 : w2.cell? ⟨wr.heap.size, 4, none⟩ = some (.int .i64 a.outcome) := cell_of_row w2 _ 4 _ 36 _ hblk2); (have d5 : w2.cell? ⟨wr.heap.size, 5, none⟩ = some (.int .i64 a.n) := cell_of_row w2 _ 5 _ 36 _ hblk2); (have d6 : w2.cell? ⟨wr.heap.size, 6, none⟩ = some (.int .i64 a.dir) := cell_of_row w2 _ 6 _ 36 _ hblk2); (have d7 : w2.cell? ⟨wr.heap.size, 7, none⟩ = some (.slice ay a.tails.length cy) := cell_of_row w2 _ 7 _ 36 _ hblk2); (have hlt2 : wr.heap.size < w2.heap.size := Nat.lt_of_lt_of_le (by simp) bel2.size); (have y1 : ¬ 9223372036854775807 < S.size + 1 := by omega))
                  | (go_at_call 36; refine (f36 _).mono ?_; clear f36; rintro e w3 ⟨rfl, bel3⟩; (have b13 := print_step_below bel2 bel3); (have hblk3 := print_step_block hblk2 bel3); (have hI3 := builder_below hI b13); (have b3 : Below w.heap.size w w3 := hbw.trans (b13.mono hwle)); (have hsz3 := print_size (S := S) (k := k) (aa := aa) hSz hln2); (have hws3 := b3.size))
                  | (go_at_call 37; (with_reducible refine (writeString_calls w.heap.size w.heap.size (byteCells (script (aa.take k))) (S ++ ⟨#[10]⟩) w3 hI3 hsz3 hws3).mono ?_); rintro e w4 ⟨rfl, hB4, bel4, ok4⟩; (have b4 : Below w.heap.size w w4 := b3.trans bel4); (have hblk4 := others_block ok4 hblk3 (Nat.ne_of_gt hbk)); (have e1 : w4.cell? ⟨wr.heap.size, 1, none⟩ = some (.string a.raw) := cell_of_row w4 _ 1 _ 36 _ hblk4); (have e2 : w4.cell? ⟨wr.heap.size, 2, none⟩ = some (.slice ax a.draws.length cx) := cell_of_row w4 _ 2 _ 36 _ hblk4); (have hlt4 : wr.heap.size < w4.heap.size := block_lt_of_cell e1); (have hc1 := coded_calls _ a.draws w4 (hx.below b4) (by have := hfa.draws; omega)))
                  | (go_at_call 38; (with_reducible refine hc1.mono ?_); rintro e w5 ⟨S5, rfl, hS5, bel5⟩; (have hz5 := size_of_list hS5); clear hS5; (have t5 : ¬ (65536 : Int) < (S5.size : Int) := by omega); (have f1 := (bel5.cell (p := ⟨wr.heap.size, 1, none⟩) hlt4).trans e1); (have b5w := bel5.trans ((hBel w5).mono bel5.size)))
                  | (go_at_call 38; (with_reducible refine (coded_calls _ a.raw.data.toList (bw w5) (hB w5) hrl).mono ?_); rintro e w6 ⟨S6, rfl, hS6, bel6⟩; (have hz6 := size_of_list hS6); clear hS6; (have t6 : (65536 : Int) < (S6.size : Int) := by omega)))
                have hst2 := script_take aa k ha
                have hrow : byteCells (script (aa.take k)) ++ strCells (S ++ ⟨#[10]⟩) = byteCells (script (aa.take (k + 1))) := by
                  rw [hst2, strCells_eq, ByteArray.data_append, Array.toList_append, show S.data.toList = lineS a from hSh]
                  simp [byteCells]
                have hI4 : IsBuilderF 83 5 w.heap.size w.heap.size (byteCells (script (aa.take (k + 1)))) w4 := .inr (by rw [← hrow]; exact hB4)
                have hok' : Hid (∀ x ∈ aa.take (k + 1), okA x = true) := fun x hx => (mem_take_succ ha hx).elim (fun h => hok x h) (fun h => by rw [h]; exact hoa)
                have hany' : (aa.take (k + 1)).any wideA = ((aa.take k).any wideA || wideA a) := by rw [List.take_add_one, ha]; simp
                refine ⟨⟨k + 1, true, hlt, (by first | rfl | simp), (by first | rfl | (congr 1; simp; omega)), (by show _ = _; rw [hany', ← show false = _ from hwb]; have h3 : wideA a = true := (by unfold wideA; simp; omega); rw [h3]; simp), hok', (builder_below hI4 (bel5.trans (((hBel w5).trans (bel6.mono (hBel w5).size)).mono bel5.size))), (b4.trans ((bel5.trans (((hBel w5).trans (bel6.mono (hBel w5).size)).mono bel5.size)).mono b4.size))⟩, ?_⟩
                simp only [intOf]
                omega
              · go_wp2_with (first
                  | (go_at_call 35; refine hcall.mono ?_; clear hcall; rintro e w2 ⟨S, tv, rfl, hS, htold, bel2⟩; (obtain ⟨k', t', o', n', q', s', x', y', d', q1, l', q2, rfl, hwh⟩ := htold); rw [hoa] at hwh; (have hSz := size_of_list hS); (have hSh : Hid (S.data.toList = lineS a) := hS); clear hS; (have f36 := fun W => whole_calls a.kind k' a.now t' a.outcome o' a.n n' a.dir q' a.raw s' ax x' ay y' a.draws.length d' cx q1 a.tails.length l' cy q2 W); simp only [hwh] at f36; clear hwh; (have hblk2 : w2.heap[wr.heap.size]? = some (.cells (actCells a ax cx ay cy).toArray 36 (0, 0)) := (bel2.block _ (by simp)).trans (heap_alloc_new _ _)); (have d0 : w2.cell? ⟨wr.heap.size, 0, none⟩ = some (.int .i64 a.kind) := cell_of_row w2 _ 0 _ 36 _ hblk2); (have d1 : w2.cell? ⟨wr.heap.size, 1, none⟩ = some (.string a.raw) := cell_of_row w2 _ 1 _ 36 _ hblk2); (have d2 : w2.cell? ⟨wr.heap.size, 2, none⟩ = some (.slice ax a.draws.length cx) := cell_of_row w2 _ 2 _ 36 _ hblk2); (have d3 : w2.cell? ⟨wr.heap.size, 3, none⟩ = some (.int .u64 (a.now : Int)) := cell_of_row w2 _ 3 _ 36 _ hblk2); (have d4 : w2.cell? ⟨wr.heap.size, 4, none⟩ = some (.int .i64 a.outcome) := cell_of_row w2 _ 4 _ 36 _ hblk2); (have d5 : w2.cell? ⟨wr.heap.size, 5, none⟩ = some (.int .i64 a.n) := cell_of_row w2 _ 5 _ 36 _ hblk2); (have d6 : w2.cell? ⟨wr.heap.size, 6, none⟩ = some (.int .i64 a.dir) := cell_of_row w2 _ 6 _ 36 _ hblk2); (have d7 : w2.cell? ⟨wr.heap.size, 7, none⟩ = some (.slice ay a.tails.length cy) := cell_of_row w2 _ 7 _ 36 _ hblk2); (have hlt2 : wr.heap.size < w2.heap.size := Nat.lt_of_lt_of_le (by simp) bel2.size); (have y1 : ¬ 9223372036854775807 < S.size + 1 := by omega))
                  | (go_at_call 36; refine (f36 _).mono ?_; clear f36; rintro e w3 ⟨rfl, bel3⟩; (have b13 := print_step_below bel2 bel3); (have hblk3 := print_step_block hblk2 bel3); (have hI3 := builder_below hI b13); (have b3 : Below w.heap.size w w3 := hbw.trans (b13.mono hwle)); (have hsz3 := print_size (S := S) (k := k) (aa := aa) hSz hln2); (have hws3 := b3.size))
                  | (go_at_call 37; (with_reducible refine (writeString_calls w.heap.size w.heap.size (byteCells (script (aa.take k))) (S ++ ⟨#[10]⟩) w3 hI3 hsz3 hws3).mono ?_); rintro e w4 ⟨rfl, hB4, bel4, ok4⟩; (have b4 : Below w.heap.size w w4 := b3.trans bel4); (have hblk4 := others_block ok4 hblk3 (Nat.ne_of_gt hbk)); (have e1 : w4.cell? ⟨wr.heap.size, 1, none⟩ = some (.string a.raw) := cell_of_row w4 _ 1 _ 36 _ hblk4); (have e2 : w4.cell? ⟨wr.heap.size, 2, none⟩ = some (.slice ax a.draws.length cx) := cell_of_row w4 _ 2 _ 36 _ hblk4); (have hlt4 : wr.heap.size < w4.heap.size := block_lt_of_cell e1); (have hc1 := coded_calls _ a.draws w4 (hx.below b4) (by have := hfa.draws; omega)))
                  | (go_at_call 38; (with_reducible refine hc1.mono ?_); rintro e w5 ⟨S5, rfl, hS5, bel5⟩; (have hz5 := size_of_list hS5); clear hS5; (have t5 : ¬ (65536 : Int) < (S5.size : Int) := by omega); (have f1 := (bel5.cell (p := ⟨wr.heap.size, 1, none⟩) hlt4).trans e1); (have b5w := bel5.trans ((hBel w5).mono bel5.size)))
                  | (go_at_call 38; (with_reducible refine (coded_calls _ a.raw.data.toList (bw w5) (hB w5) hrl).mono ?_); rintro e w6 ⟨S6, rfl, hS6, bel6⟩; (have hz6 := size_of_list hS6); clear hS6; (have t6 : ¬ (65536 : Int) < (S6.size : Int) := by omega)))
                have hst2 := script_take aa k ha
                have hrow : byteCells (script (aa.take k)) ++ strCells (S ++ ⟨#[10]⟩) = byteCells (script (aa.take (k + 1))) := by
                  rw [hst2, strCells_eq, ByteArray.data_append, Array.toList_append, show S.data.toList = lineS a from hSh]
                  simp [byteCells]
                have hI4 : IsBuilderF 83 5 w.heap.size w.heap.size (byteCells (script (aa.take (k + 1)))) w4 := .inr (by rw [← hrow]; exact hB4)
                have hok' : Hid (∀ x ∈ aa.take (k + 1), okA x = true) := fun x hx => (mem_take_succ ha hx).elim (fun h => hok x h) (fun h => by rw [h]; exact hoa)
                have hany' : (aa.take (k + 1)).any wideA = ((aa.take k).any wideA || wideA a) := by rw [List.take_add_one, ha]; simp
                refine ⟨⟨k + 1, false, hlt, (by first | rfl | simp), (by first | rfl | (congr 1; simp; omega)), (by show _ = _; rw [hany', ← show false = _ from hwb]; have h3 : wideA a = false := (by unfold wideA; simp; omega); rw [h3]; simp), hok', (builder_below hI4 (bel5.trans (((hBel w5).trans (bel6.mono (hBel w5).size)).mono bel5.size))), (b4.trans ((bel5.trans (((hBel w5).trans (bel6.mono (hBel w5).size)).mono bel5.size)).mono b4.size))⟩, ?_⟩
                simp only [intOf]
                omega
      · have hge : ¬ (k : Int) < (aa.length : Int) := by omega
        obtain rfl : k = aa.length := by omega
        rw [List.take_length] at hI
        have hany : Hid (wb = aa.any wideA) := by show _ = _; rw [show wb = _ from hwb, List.take_length]
        have hall : Hid (aa.all okA = true) := List.all_eq_true.2 fun x hx => hok x (by rw [List.take_length]; exact hx)
        clear hwb hok
        cases wb with
        | true =>
          go_wp2
          go_ret2
          unfold PrintOut
          have hP : printS aa = ([], 1) := by
            rw [printS, if_neg hlen, if_neg (by rw [show aa.all okA = true from hall]; simp), if_pos (.inl (show _ = _ from hany).symm)]
          exact ⟨⟨#[]⟩, by rw [hP]; rfl, by rw [hP], hbw⟩
        | false =>
          have hbl := byteCells_length (script aa)
          have hany2 : ¬ aa.any wideA = true := by rw [← show false = _ from hany]; simp
          have hany3 : Hid (¬ aa.any wideA = true) := hany2
          clear hany2 hany
          by_cases hlong : 1048576 < (script aa).length
          · have hlong' : (1048576 : Int) < ((byteCells (script aa)).length : Int) := by omega
            clear hbl
            go_wp2_with (go_at_call 39; refine (builderLen_calls _ _ _ _ hI).mono ?_; rintro e w9 ⟨rfl, rfl⟩)
            go_ret2
            unfold PrintOut
            have hP : printS aa = ([], 1) := by
              rw [printS, if_neg hlen, if_neg (by rw [show aa.all okA = true from hall]; simp), if_pos (.inr hlong)]
            exact ⟨⟨#[]⟩, by rw [hP]; rfl, by rw [hP], hbw⟩
          · have hlong' : ¬ (1048576 : Int) < ((byteCells (script aa)).length : Int) := by omega
            clear hbl
            have hstr := builderString_calls w.heap.size w.heap.size (script aa) wr hI hbw.size
            go_wp2_with (first
              | (go_at_call 39; refine (builderLen_calls _ _ _ _ hI).mono ?_; rintro e w9 ⟨rfl, rfl⟩)
              | (go_at_call 40; refine hstr.mono ?_; clear hstr; rintro e w9 ⟨rfl, _, bel9, _⟩))
            go_ret2
            unfold PrintOut
            have hP : printS aa = (script aa, 0) := by
              rw [printS, if_neg hlen, if_neg (by rw [show aa.all okA = true from hall]; simp), if_neg (by intro e; exact e.elim (show ¬ _ from hany3) (fun e => by omega))]
            exact ⟨⟨(script aa).toArray⟩, by rw [hP]; rfl, by rw [hP], hbw.trans bel9⟩
end Go.Proofs.YtbfoocginkdmcaaGreatDoor

/-
  acts: a copy of a list of acts.
-/

set_option maxHeartbeats 4000000
namespace Go.Proofs.YtbfoocginkdmcaaGreatDoor
open Go Go.RowKit Go.Basic Go.ArgS Go.Scr Go.Lib
theorem inf36 : (Tryz.prog.info? 36).map (fun i => (i.zero, i.size, i.bytes)) = some (some (.agg #[.int .i64 0, .string ⟨#[]⟩, .slice none 0 0, .int .u64 0, .int .i64 0, .int .i64 0, .int .i64 0, .slice none 0 0]), 8, 104) := by kernel_rfl
def Apart (w : World) (row : Option Nat) (k : IntKind) (v : Value) (zs : List Int) : Prop := IsSl w k v zs ∧ ∀ p l c, v = .slice (some p) l c → p.block < w.heap.size ∧ some p.block ≠ row
theorem Apart.grown {w w' : World} {row : Option Nat} {k : IntKind} {v : Value} {zs : List Int} (h : Apart w row k v zs) (hg : w.grownBy w' row) : IsSl w' k v zs := by
  rcases h.1 with h1 | ⟨p, cap, rfl, hc⟩
  · exact .inl h1
  · obtain ⟨hl1, hl2⟩ := h.2 p _ _ rfl
    refine .inr ⟨p, cap, rfl, fun j x hj => ?_⟩
    exact (World.cell?_of_block (by rw [add_block]; exact hg.block _ hl1 hl2)).trans (hc j x hj)
theorem Apart.moved {w w' : World} {row : Option Nat} {g H : Nat} {k : IntKind} {v : Value} {zs : List Int} (h : Apart w row k v zs) (hg : w.grownBy w' row) (hH : w.heap.size = H) (hat : row = some g ∨ g = H) : Apart w' (some g) k v zs := by
  refine ⟨h.grown hg, fun p l c e => ?_⟩
  obtain ⟨h1, h2⟩ := h.2 p l c e
  refine ⟨Nat.lt_of_lt_of_le h1 hg.size, ?_⟩
  rcases hat with h3 | h3
  · rw [← h3]; exact h2
  · intro e2
    cases e2
    omega
theorem Apart.below {w w' : World} {row : Option Nat} {k : IntKind} {v : Value} {zs : List Int} (h : Apart w row k v zs) (hb : Below w.heap.size w w') : Apart w' row k v zs :=
  ⟨h.1.below hb, fun p l c e => ⟨Nat.lt_of_lt_of_le (h.2 p l c e).1 hb.size, (h.2 p l c e).2⟩⟩
theorem Apart.of_new {w w0 : World} {row : Option Nat} {B : Nat} {k : IntKind} {v : Value} {zs : List Int} (h : OwnSl w B k v zs) (hr : ∀ g, row = some g → g < B) : Apart w row k v zs :=
  ⟨h.1, fun p l c e => ⟨(h.2 p l c e).2, fun e2 => by have h1 := hr _ e2.symm; have h2 := (h.2 p l c e).1; omega⟩⟩
def Built (w : World) (row : Option Nat) (aa : List PAct) (xs : List Value) : Prop := xs.length = 8 * aa.length ∧ ∀ (i : Nat) a, aa[i]? = some a → ∃ ax cx ay cy, (∀ (j : Nat) c, (actCells a ax cx ay cy)[j]? = some c → xs[i * 8 + j]? = some c) ∧
  Apart w row .u8 (.slice ax a.draws.length cx) (a.draws.map fun b => (b.toNat : Int)) ∧ Apart w row .i64 (.slice ay a.tails.length cy) a.tails
theorem Built.below {w w' : World} {row : Option Nat} {aa : List PAct} {xs : List Value} (h : Built w row aa xs) (hb : Below w.heap.size w w') : Built w' row aa xs := by
  refine ⟨h.1, fun i a hi => ?_⟩
  obtain ⟨ax, cx, ay, cy, h1, h2, h3⟩ := h.2 i a hi
  exact ⟨ax, cx, ay, cy, h1, h2.below hb, h3.below hb⟩
theorem Built.moved {w w' : World} {row : Option Nat} {g H : Nat} {aa : List PAct} {xs : List Value} (h : Built w row aa xs) (hg : w.grownBy w' row) (hH : w.heap.size = H) (hat : row = some g ∨ g = H) : Built w' (some g) aa xs := by
  refine ⟨h.1, fun i a hi => ?_⟩
  obtain ⟨ax, cx, ay, cy, h1, h2, h3⟩ := h.2 i a hi
  exact ⟨ax, cx, ay, cy, h1, h2.moved hg hH hat, h3.moved hg hH hat⟩
theorem Built.push {w : World} {row : Option Nat} {aa : List PAct} {xs : List Value} (h : Built w row aa xs) (a : PAct) {ax ay : Option Addr} {cx cy : Nat}
    (hx : Apart w row .u8 (.slice ax a.draws.length cx) (a.draws.map fun b => (b.toNat : Int))) (hy : Apart w row .i64 (.slice ay a.tails.length cy) a.tails) : Built w row (aa ++ [a]) (xs ++ actCells a ax cx ay cy) := by
  refine ⟨by rw [List.length_append, h.1, List.length_append]; show 8 * aa.length + 8 = 8 * (aa.length + 1); omega, fun i b hi => ?_⟩
  rcases Nat.lt_or_ge i aa.length with hlt | hge
  · rw [List.getElem?_append_left hlt] at hi
    obtain ⟨ax', cx', ay', cy', h1, h2, h3⟩ := h.2 i b hi
    refine ⟨ax', cx', ay', cy', fun j c hj => ?_, h2, h3⟩
    have h4 := h1 j c hj
    rw [List.getElem?_append_left (List.getElem?_eq_some_iff.1 h4).1]
    exact h4
  · rw [List.getElem?_append_right hge] at hi
    have h0 : i - aa.length = 0 := by
      rcases Nat.eq_zero_or_pos (i - aa.length) with h5 | h5
      · exact h5
      · rw [List.getElem?_eq_none (by simp; omega)] at hi; cases hi
    rw [h0] at hi
    cases hi
    refine ⟨ax, cx, ay, cy, fun j c hj => ?_, hx, hy⟩
    rw [List.getElem?_append_right (by rw [h.1]; omega), show i * 8 + j - xs.length = j by rw [h.1]; omega]
    exact hj
theorem Built.nil (w : World) (row : Option Nat) : Built w row [] [] := ⟨rfl, fun i a hi => by simp at hi⟩
theorem Built.acts {w : World} {B n : Nat} {v : Value} {aa : List PAct} {xs : List Value} (h : Built w v.ownBlock aa xs) (hn : n = aa.length) (hown : w.ownsRow B 36 8 v n xs) : IsActs w v aa := by
  rcases hown.2 with ⟨h0, h1⟩ | ⟨g, cap, cur, h0, _⟩
  · refine .inl ⟨none, 0, by rw [h0], ?_⟩
    rw [h1] at hn
    exact List.eq_nil_of_length_eq_zero hn.symm
  · refine .inr ⟨g, 0, cap, by rw [h0, hn], fun i a hi => ?_⟩
    obtain ⟨ax, cx, ay, cy, h1, h2, h3⟩ := h.2 i a hi
    refine ⟨ax, cx, ay, cy, fun j c hj => ?_, h2.1, h3.1⟩
    have h4 := hown.cells (by rw [h0]; rfl) _ _ (h1 j c hj)
    have h5 : ((⟨g, 0, none⟩ : Addr).add (i * 8 + j)) = ⟨g, 0 + i * 8 + j, none⟩ := by
      have h9 : (⟨g, 0, none⟩ : Addr).add (i * 8 + j) = ⟨g, 0 + (i * 8 + j), none⟩ := by simp [Addr.add]; omega
      rw [h9, Nat.add_assoc]
    rw [h5] at h4
    exact h4
theorem own_belowS {w w' : World} {B : Nat} {e : TypeId} {size : Nat} {v : Value} {n : Nat} {xs : List Value} (h : w.ownsRow B e size v n xs) (hb : Below w.heap.size w w') : w'.ownsRow B e size v n xs :=
  h.kept (row := none) ⟨hb.os, hb.tape, hb.output, hb.size, fun k hk _ => hb.block k hk⟩ (by cases h9 : v.ownBlock with | none => exact .inl rfl | some g => exact .inr (by simp))
theorem own_slice8 {w : World} {B : Nat} {e : TypeId} {v : Value} {n : Nat} {xs : List Value} (h : w.ownsRow B e 8 v n xs) : ∃ a c, v = .slice a n c := by
  rcases h.2 with ⟨h0, rfl⟩ | ⟨g, cap, cur, h0, _⟩
  · exact ⟨_, _, h0⟩
  · exact ⟨_, _, h0⟩
theorem act_one (a : PAct) (ax ay : Option Addr) (cx cy : Nat) : ∀ u ∈ actCells a ax cx ay cy, u.oneCell' = true := by
  intro u hu
  simp only [actCells, List.mem_cons, List.not_mem_nil, or_false] at hu
  rcases hu with h | h | h | h | h | h | h | h <;> (subst h; rfl)
def ActsOut (w : World) (aa : List PAct) (e : Ending) (w' : World) : Prop := ∃ v', e = .returned v' ∧ IsActs w' v' aa ∧ Below w.heap.size w w'
theorem acts_calls (v : Value) (aa : List PAct) (w : World) (h : IsActs w v aa) (hf : ∀ a ∈ aa, Fits a) (hl : aa.length ≤ 1100000) :
    Calls Tryz.prog 18 #[v] w (ActsOut w aa) := by
  obtain ⟨i0, hi, hz0, hz1, hz2⟩ := info_parts inf36
  obtain ⟨oa, cap, rfl⟩ := h.slice
  go_enter Tryz.func18, Tryz.ntmps18
  go_wp2
  go_loopw [3, 4] (fun vo i wr => ∃ (k : Nat) (xs : List Value), k ≤ aa.length ∧ i = .int .i64 k ∧ wr.ownsRow w.heap.size 36 8 vo k xs ∧ Built wr vo.ownBlock (aa.take k) xs ∧ Below w.heap.size w wr) (fun _ i _ => aa.length - (intOf i).toNat)
  case atStart => exact ⟨0, [], Nat.zero_le _, rfl, World.ownsRow_nil _ _ _ _, Built.nil _ _, Below.refl _ _⟩
  case round =>
    obtain ⟨k, xs, hk, rfl, hown, hbl, hbw⟩ := hrel
    by_cases hlt : k < aa.length
    · have hlt' : (k : Int) < (aa.length : Int) := by omega
      obtain ⟨a, ha⟩ : ∃ a, aa[k]? = some a := ⟨aa[k], List.getElem?_eq_getElem hlt⟩
      obtain ⟨b, off, cap', ax, cx, ay, cy, ev, c0, c1, c2, c3, c4, c5, c6, c7, hx, hy⟩ := (h.below hbw).at ha
      cases ev
      have hfa := hf a (List.mem_of_getElem? ha)
      have hxl : (a.draws.map fun b => (b.toNat : Int)).length ≤ reachBytes := by rw [List.length_map]; have := hfa.draws; unfold reachBytes; omega
      have hyl : a.tails.length * 8 ≤ reachBytes := by have := hfa.long; unfold reachBytes; omega
      have hcall := act_calls a.kind a.now a.outcome a.n a.dir a.raw _ _ _ _ wr hx hy hxl hyl
      have htk : aa.take (k + 1) = aa.take k ++ [a] := by rw [List.take_add_one, ha]; rfl
      clear hx hy hxl hyl ha hfa
      obtain ⟨vg, vc, rfl⟩ := own_slice8 hown
      have hrow : ∀ g, (Value.slice vg k vc).ownBlock = some g → g < wr.heap.size := fun g hg => (hown.lt g hg).2
      go_wp2_with (first
        | (go_at_call 14; refine hcall.mono ?_; clear hcall; rintro e w1 ⟨x', y', rfl, hx1, hy1, bel1⟩; (obtain ⟨ax1, cx1, rfl⟩ := hx1.1.slice); (obtain ⟨ay1, cy1, rfl⟩ := hy1.1.slice); rw [List.length_map] at hx1)
        | (at_builtin; generalize hX : wpList _ _ _ _ _ _ = X))
      rw [← hX]
      clear hX
      refine wpList_append_lies _ rfl _ _ 22 rfl w.heap.size 36 i0 _ 8 104 Tryz.underlying22 hi hz0 hz1 hz2 rfl (by decide) (.slice vg k vc) k xs rfl ((own_belowS hown bel1).alloc _) ⟨w1.heap.size, 0, none⟩ 1 1 (actCells a ax1 cx1 ay1 cy1) rfl rfl ?_ (act_one _ _ _ _ _) (by decide) (by unfold maxLen; omega) (by omega) (by have h1 := hbw.size; have h2 := bel1.size; simp; omega) _ rfl ?_
      · intro j u hj
        have hc := (Box.new w1 (actCells a ax1 cx1 ay1 cy1).toArray 36).2.1 j
        rw [show (⟨w1.heap.size, 0, none⟩ : Addr).add j = ⟨w1.heap.size, j, none⟩ by (simp [Addr.add]; try omega)]
        exact hc.trans hj
      · intro g cap2 w3 hown3 hg3 hat hlt3
        have B1 : Built (w1.alloc (.cells (actCells a ax1 cx1 ay1 cy1).toArray 36)) (Value.slice vg k vc).ownBlock (aa.take (k + 1)) (xs ++ actCells a ax1 cx1 ay1 cy1) := by
          rw [htk]
          have ba : Below w1.heap.size w1 (w1.alloc (.cells (actCells a ax1 cx1 ay1 cy1).toArray 36)) := (Below.refl _ _).alloc (Nat.le_refl _) _
          exact ((hbl.below bel1).below ba).push a ((Apart.of_new (w0 := w) hx1 hrow).below ba) ((Apart.of_new (w0 := w) hy1 hrow).below ba)
        have B3 := B1.moved hg3 rfl hat
        have hb3 : Below w.heap.size w w3 := ((hbw.trans (bel1.mono hbw.size)).alloc (Nat.le_trans hbw.size bel1.size) _).grown hg3 (by have h1 := hbw.size; have h2 := bel1.size; simp; omega) fun g hg => (hown.lt g hg).1
        clear hrow hg3 hat B1 hown hbl hx1 hy1 htk
        go_wp2
        refine ⟨⟨k + 1, _, hlt, (by first | rfl | simp), hown3, B3, hb3⟩, ?_⟩
        simp only [intOf]
        omega
    · have hge : ¬ (k : Int) < (aa.length : Int) := by omega
      obtain rfl : k = aa.length := by omega
      rw [List.take_length] at hbl
      have hA := Built.acts hbl rfl hown
      obtain ⟨vg, vc, rfl⟩ := own_slice8 hown
      go_wp2
      go_ret
      unfold ActsOut
      exact ⟨_, rfl, hA, hbw⟩
end Go.Proofs.YtbfoocginkdmcaaGreatDoor

/-
  What slices of acts and of turns that came in are, cell for cell; how long their words are.
-/

set_option maxHeartbeats 1000000
namespace Go.Proofs.YtbfoocginkdmcaaGreatDoor
open Go Go.ChangeShapes Go.WideShapes Go.ChangeAt Go.RowKit Go.Joins Go.ArgS Go.Scr Go.Lib
theorem bulk_pos {H : Type} (d : DataW H) : 1 ≤ Rows.uptoBulk d := by
  cases d with
  | lit l => cases l <;> simp [Rows.uptoBulk]
  | nil => simp [Rows.uptoBulk]
  | ptr d => simp [Rows.uptoBulk]
  | slice a b => simp [Rows.uptoBulk]
  | agg a => simp [Rows.uptoBulk]
  | iface a b => simp [Rows.uptoBulk]
  | map e => simp [Rows.uptoBulk]
  | held h => simp [Rows.uptoBulk]
theorem bulk_len {H : Type} (l : List (DataW H)) : l.length ≤ Rows.uptoBulkAll l := by
  induction l with
  | nil => simp [Rows.uptoBulkAll]
  | cons d r ih =>
    have h1 := bulk_pos d
    simp only [Rows.uptoBulkAll, List.length_cons]
    omega
theorem wf_i64 {n : Int} (h : (Lit.int .i64 n).wf = true) : -9223372036854775808 ≤ n ∧ n ≤ 9223372036854775807 := by
  simp [Lit.wf, IntKind.min, IntKind.max, IntKind.signed, IntKind.bits] at h
  omega
theorem wf_u64 {n : Int} (h : (Lit.int .u64 n).wf = true) : ∃ k : Nat, n = k ∧ k < 18446744073709551616 := by
  simp [Lit.wf, IntKind.min, IntKind.max, IntKind.signed, IntKind.bits] at h
  exact ⟨n.toNat, by omega, by omega⟩
theorem wf_u8 {n : Int} (h : (Lit.int .u8 n).wf = true) : 0 ≤ n ∧ n < 256 := by
  simp [Lit.wf, IntKind.min, IntKind.max, IntKind.signed, IntKind.bits] at h
  omega
theorem bytes_of_nums (zs : List Int) (h : ∀ n ∈ zs, (Lit.int .u8 n).wf = true) : ∃ bs : List UInt8, zs = bs.map fun b => (b.toNat : Int) := by
  refine ⟨zs.map fun n => UInt8.ofNat n.toNat, ?_⟩
  rw [List.map_map]
  conv => lhs; rw [← List.map_id zs]
  refine List.map_congr_left fun n hn => ?_
  have h1 := wf_u8 (h n hn)
  simp only [Function.comp, UInt8.toNat_ofNat', id]
  omega
theorem open_slb {H : Type} {enc : TypeId × Value → H} {P : Program} {w : World} {base : Nat} {t e : TypeId} {k : IntKind} {fuel : Nat} {c : Value} {x : DataW H × List MemPlace}
    (ht : P.underlying t = some (.slice e)) (he : P.underlying e = some (.int k)) (hc : P.cellsOf e = 1) (h : DataW.trod enc P w base (fun _ => true) true fuel t [c] = some x) :
    ∃ zs, IsSl w k c zs ∧ (∀ n ∈ zs, (Lit.int k n).wf = true) ∧ zs.length + 1 ≤ Rows.uptoBulk x.1 := by
  rcases ChangeShapes.open_ints ht he hc h with ⟨h0, h1⟩ | ⟨a, len, cap, zs, h0, _, hl, _, hz, hx, hcell, hwf⟩
  · exact ⟨[], .inl ⟨by simpa using h0, rfl⟩, fun _ h => (by cases h), bulk_pos _⟩
  · have e0 : c = .slice (some a) len cap := by simpa using h0
    subst e0
    rw [if_pos rfl] at hz
    have hlz : (zs.take len).length = len := by rw [List.length_take]; omega
    refine ⟨zs.take len, .inr ⟨a, cap, by rw [hlz], fun j y hj => ?_⟩, fun n hn => hwf n (List.mem_of_mem_take hn), ?_⟩
    · have hj2 : zs[j]? = some y := by
        rw [List.getElem?_take] at hj
        split at hj
        · exact hj
        · cases hj
      have hlt : j < zs.length := (List.getElem?_eq_some_iff.1 hj2).1
      rw [hcell j hlt, List.getD, hj2]
      rfl
    · subst hx
      have h1 := bulk_len (H := H) (ChangeShapes.lits k (zs.take len))
      have h2 : (ChangeShapes.lits (H := H) k (zs.take len)).length = (zs.take len).length := by simp [ChangeShapes.lits]
      simp only [Rows.uptoBulk]
      omega
def actB (a : PAct) : Nat := a.raw.size + a.draws.length + a.tails.length + 10
theorem act_of_cells {H : Type} {enc : TypeId × Value → H} {W : World} {base fuel : Nat} {cs : List Value} {x : DataW H × List MemPlace} (h : DataW.trod enc Tryz.prog W base (fun _ => true) true fuel 36 cs = some x) (hb : Rows.uptoBulk x.1 ≤ 1048576) :
    ∃ (a : PAct) (ax ay : Option Addr) (cx cy : Nat), cs = actCells a ax cx ay cy ∧ IsB W (.slice ax a.draws.length cx) a.draws ∧ IsSl W .i64 (.slice ay a.tails.length cy) a.tails ∧ Fits a ∧ actB a ≤ Rows.uptoBulk x.1 := by
  obtain ⟨xs, n, _, hx, hl, hlen, hf⟩ := DataW.trod_struct Tryz.underlying36 h
  rw [cells36] at hl
  match cs, hl with
  | [c0, c1, c2, c3, c4, c5, c6, c7], _ =>
  match xs, hlen with
  | [y0, y1, y2, y3, y4, y5, y6], _ =>
    have h0 : DataW.trod enc Tryz.prog W base (fun _ => true) true n 3 [c0] = some y0 := by simpa [cells3] using hf 0 _ rfl
    have h1 : DataW.trod enc Tryz.prog W base (fun _ => true) true n 9 [c1] = some y1 := by simpa [cells9] using hf 1 _ rfl
    have h2 : DataW.trod enc Tryz.prog W base (fun _ => true) true n 30 [c2] = some y2 := by simpa [cells30] using hf 2 _ rfl
    have h3 : DataW.trod enc Tryz.prog W base (fun _ => true) true n 31 [c3] = some y3 := by simpa [cells31] using hf 3 _ rfl
    have h4 : DataW.trod enc Tryz.prog W base (fun _ => true) true n 3 [c4] = some y4 := by simpa [cells3] using hf 4 _ rfl
    have h5 : DataW.trod enc Tryz.prog W base (fun _ => true) true n 3 [c5] = some y5 := by simpa [cells3] using hf 5 _ rfl
    have h6 : DataW.trod enc Tryz.prog W base (fun _ => true) true n 34 [c6, c7] = some y6 := by simpa [cells34] using hf 6 _ rfl
    obtain ⟨us, m, _, hu, _, hulen, hg⟩ := DataW.trod_struct Tryz.underlying34 h6
    match us, hulen with
    | [z0, z1], _ =>
      have g0 : DataW.trod enc Tryz.prog W base (fun _ => true) true m 3 [c6] = some z0 := by simpa [cells3] using hg 0 _ rfl
      have g1 : DataW.trod enc Tryz.prog W base (fun _ => true) true m 32 [c7] = some z1 := by simpa [cells32] using hg 1 _ rfl
      obtain ⟨k, e0, d0, _⟩ := DataW.trod_int Tryz.underlying3 h0
      obtain ⟨s, e1, d1, _⟩ := DataW.trod_string Tryz.underlying9 h1
      obtain ⟨t, e3, d3, w3⟩ := DataW.trod_int Tryz.underlying31 h3
      obtain ⟨o, e4, d4, w4⟩ := DataW.trod_int Tryz.underlying3 h4
      obtain ⟨nn, e5, d5, w5⟩ := DataW.trod_int Tryz.underlying3 h5
      obtain ⟨q, e6, d6, w6⟩ := DataW.trod_int Tryz.underlying3 g0
      obtain ⟨ds, i2, v2, l2⟩ := open_slb Tryz.underlying30 Tryz.underlying5 cells5 h2
      obtain ⟨ts, i7, v7, l7⟩ := open_slb Tryz.underlying32 Tryz.underlying3 cells3 g1
      have hd : x.1 = .agg ([y0, y1, y2, y3, y4, y5, y6].map (·.1)) := congrArg Prod.fst hx
      have hd6 : y6.1 = .agg ([z0, z1].map (·.1)) := congrArg Prod.fst hu
      have p0 := bulk_pos y0.1
      have p3 := bulk_pos y3.1
      have p4 := bulk_pos y4.1
      have p5 := bulk_pos y5.1
      have p6 := bulk_pos z0.1
      have p1 : Rows.uptoBulk y1.1 = s.size + 1 := by rw [d1]; simp [Rows.uptoBulk]
      rw [hd] at hb ⊢
      simp only [List.map_cons, List.map_nil, Rows.uptoBulk, Rows.uptoBulkAll, hd6] at hb ⊢
      obtain ⟨bs, rfl⟩ := bytes_of_nums ds v2
      obtain ⟨tn, rfl, ht⟩ := wf_u64 w3
      simp only [List.length_map] at l2
      obtain ⟨ax, cx, ex⟩ := i2.slice
      obtain ⟨ay, cy, ey⟩ := i7.slice
      rw [List.length_map] at ex
      simp only [List.cons.injEq, and_true] at e0 e1 e3 e4 e5 e6
      subst e0 e1 e3 e4 e5 e6 ex ey
      refine ⟨⟨k, s, bs, tn, o, nn, q, ts⟩, ax, ay, cx, cy, rfl, i2, i7, ⟨ht, wf_i64 w4, wf_i64 w5, wf_i64 w6, fun y hy => wf_i64 (v7 y hy), ?_, ?_, ?_⟩, ?_⟩
      all_goals simp only [actB]
      all_goals omega
theorem bulk_get {H : Type} (l : List (DataW H)) (i : Nat) (d : DataW H) (h : l[i]? = some d) : Rows.uptoBulk d ≤ Rows.uptoBulkAll l := by
  induction l generalizing i with
  | nil => simp at h
  | cons y r ih =>
    simp only [Rows.uptoBulkAll]
    cases i with
    | zero =>
      simp only [List.getElem?_cons_zero, Option.some.injEq] at h
      subst h
      omega
    | succ j =>
      have := ih j (by simpa using h)
      omega
theorem block_row {W : World} {base : Nat} {a : Addr} {m : Nat} {cs : List Value} (hm : 0 < m) (i : Nat) (h : W.cells? base (a.add (i * m)) m = some cs) (hs : a.spot = none) : ∀ (j : Nat) c, cs[j]? = some c → W.cell? ⟨a.block, a.off + i * m + j, none⟩ = some c := by
  obtain ⟨_, h1, h2⟩ := World.cells?_some h
  intro j c hj
  have hlt : j < m := by rw [← h1]; exact (List.getElem?_eq_some_iff.1 hj).1
  have h3 := (h2 j hlt).trans hj
  have e : (a.add (i * m)).add j = ⟨a.block, a.off + i * m + j, none⟩ := by
    obtain ⟨ab, ao, sp⟩ := a
    subst hs
    simp only [Addr.add]
    split <;> split <;> simp_all
  rw [← e]
  exact h3
theorem spot_none {W : World} {base : Nat} {a : Addr} {m : Nat} {cs : List Value} (hm : 0 < m) (h : W.cells? base (a.add (0 * m)) m = some cs) : a.spot = none := by
  obtain ⟨_, h1, h2⟩ := World.cells?_some h
  have h3 := h2 0 hm
  rw [Nat.zero_mul] at h3
  have h4 : (a.add 0).add 0 = a := by simp [Addr.add]
  rw [h4] at h3
  obtain ⟨c, hc⟩ : ∃ c, cs[0]? = some c := ⟨cs[0], List.getElem?_eq_getElem (by omega)⟩
  rw [hc] at h3
  unfold World.cell? at h3
  split at h3
  · cases hsp : a.spot with
    | none => rfl
    | some _ => rw [hsp] at h3; simp at h3
  · cases h3
theorem each_of {α β : Type} (n : Nat) (R : Nat → α → Prop) (sz : α → Nat) (l : List β) (bulk : β → Nat) (all : List β → Nat) (hnil : all [] = 0) (hcons : ∀ d r, all (d :: r) = bulk d + all r) (hl : l.length = n)
    (h : ∀ i d, l[i]? = some d → ∃ a, R i a ∧ sz a ≤ bulk d) : ∃ aa : List α, aa.length = n ∧ (∀ (i : Nat) a, aa[i]? = some a → R i a) ∧ (aa.map sz).sum ≤ all l := by
  induction l generalizing n R with
  | nil => exact ⟨[], by simpa using hl, fun i a hi => (by simp at hi), by simp⟩
  | cons d r ih =>
    obtain ⟨a, ha, hsz⟩ := h 0 d rfl
    obtain ⟨aa, h1, h2, h3⟩ := ih r.length (fun i a => R (i + 1) a) rfl (fun i d hi => h (i + 1) d (by simpa using hi))
    refine ⟨a :: aa, by rw [List.length_cons, h1, ← hl, List.length_cons], fun i b hi => ?_, ?_⟩
    · cases i with
      | zero =>
        simp only [List.getElem?_cons_zero, Option.some.injEq] at hi
        subst hi
        exact ha
      | succ j => exact h2 j b (by simpa using hi)
    · rw [List.map_cons, List.sum_cons, hcons]
      omega
theorem open_acts {H : Type} {enc : TypeId × Value → H} {W : World} {base : Nat} {r : Reach} {b0 : Nat} {v : Value} {d : DataW H} {p : List MemPlace} (hv : Value.okWide Tryz.prog W r b0 22 v)
    (h : DataW.Trod enc Tryz.prog W base (fun _ => true) true 22 v d p) (hb : Rows.uptoBulk d ≤ 1048576) :
    ∃ aa : List PAct, IsActs W v aa ∧ (∀ a ∈ aa, Fits a) ∧ (aa.map actB).sum ≤ Rows.uptoBulk d := by
  obtain ⟨oa, len0, cap0, rfl⟩ := okWide_slice Tryz.underlying22 hv
  obtain ⟨fuel, hf⟩ := h
  rcases DataW.trod_slice Tryz.underlying22 hf with ⟨h0, h1⟩ | ⟨a, len, cap, elems, rest, n, _, h0, hx, _, _, _, hlen, hel, _, _⟩
  · have e0 : Value.slice oa len0 cap0 = .slice none 0 0 := by simpa [Value.cells] using h0
    cases e0
    exact ⟨[], .inl ⟨_, _, rfl, rfl⟩, fun a ha => by simp at ha, by simp⟩
  · have e0 : Value.slice oa len0 cap0 = .slice (some a) len cap := by simpa [Value.cells] using h0
    cases e0
    have hd : d = .slice (elems.map (·.1)) (rest.map (·.1)) := congrArg Prod.fst hx
    have hbd : Rows.uptoBulkAll (elems.map (·.1)) + 1 ≤ Rows.uptoBulk d := by rw [hd]; simp only [Rows.uptoBulk]; omega
    by_cases hz : len0 = 0
    · subst hz
      exact ⟨[], .inl ⟨_, _, rfl, rfl⟩, fun a ha => by simp at ha, by simp⟩
    have hcell : ∀ i, i < len0 → ∃ cs y, W.cells? base (a.add (i * 8)) 8 = some cs ∧ DataW.trod enc Tryz.prog W base (fun _ => true) true n 36 cs = some y ∧ elems[i]? = some y := by
      intro i hi
      have h1 := hel i hi
      rw [cells36] at h1
      have h2 : i < elems.length := by omega
      rw [List.getElem?_eq_getElem h2, Option.bind_eq_some_iff] at h1
      obtain ⟨cs, h3, h4⟩ := h1
      exact ⟨cs, _, h3, h4, List.getElem?_eq_getElem h2⟩
    have hsp : a.spot = none := by
      obtain ⟨cs, y, h3, _⟩ := hcell 0 (by omega)
      exact spot_none (by decide) h3
    obtain ⟨aa, l1, l2, l3⟩ := each_of len0 (fun i (x : PAct) => Fits x ∧ ∃ ax cx ay cy, (∀ (j : Nat) c, (actCells x ax cx ay cy)[j]? = some c → W.cell? ⟨a.block, a.off + i * 8 + j, none⟩ = some c) ∧ IsB W (.slice ax x.draws.length cx) x.draws ∧ IsSl W .i64 (.slice ay x.tails.length cy) x.tails) actB
      (elems.map (·.1)) Rows.uptoBulk Rows.uptoBulkAll (by simp only [Rows.uptoBulkAll]) (fun d r => by simp only [Rows.uptoBulkAll]) (by simpa using hlen) (fun i d' hi => by
        have hbi := bulk_get _ _ _ hi
        rw [List.getElem?_map, Option.map_eq_some_iff] at hi
        obtain ⟨y, hy, rfl⟩ := hi
        have hlt : i < len0 := by rw [← hlen]; exact (List.getElem?_eq_some_iff.1 hy).1
        obtain ⟨cs, y', h3, h4, h5⟩ := hcell i hlt
        obtain rfl : y' = y := Option.some.inj (h5.symm.trans hy)
        obtain ⟨x, ax, ay, cx, cy, rfl, hx1, hx2, hx3, hx4⟩ := act_of_cells h4 (by omega)
        exact ⟨x, ⟨hx3, ax, cx, ay, cy, block_row (by decide) i h3 hsp, hx1, hx2⟩, hx4⟩)
    refine ⟨aa, .inr ⟨a.block, a.off, cap0, ?_, fun i x hi => (l2 i x hi).2⟩, fun x hx => ?_, by omega⟩
    · obtain ⟨ab, ao, sp⟩ := a
      subst hsp
      rw [l1]
    · obtain ⟨i, hi⟩ := List.getElem?_of_mem hx
      exact (l2 i x hi).1
theorem rest_len (ts : List Int) (h : ∀ x ∈ ts, -9223372036854775808 ≤ x ∧ x ≤ 9223372036854775807) : (rest ts).length ≤ 22 * ts.length := by
  induction ts with
  | nil => simp [rest]
  | cons t r ih =>
    have h1 := ih fun x hx => h x (List.mem_cons_of_mem _ hx)
    have h2 := itoa_len t (h t List.mem_cons_self).1 (h t List.mem_cons_self).2
    simp only [rest, List.flatMap_cons, List.length_append, List.length_cons] at h1 ⊢
    omega
theorem dec_len (u : Nat) (h : u < 18446744073709551616) : (decDigits u).length ≤ 21 := by
  have := nDigits_le u h
  rw [decDigits_length]
  omega
theorem line_len (a : PAct) (h : Fits a) : (lineS a).length + 1 ≤ 22 * actB a := by
  have h1 := word_le a.draws
  have h2 := word_le a.raw.data.toList
  have h3 := itoa_len a.n h.n.1 h.n.2
  have h4 := itoa_len a.dir h.dir.1 h.dir.2
  have h5 := itoa_len a.outcome h.outcome.1 h.outcome.2
  have h6 := dec_len a.now h.now
  have h7 := rest_len a.tails h.tails
  have h8 : a.raw.data.toList.length = a.raw.size := by simp
  unfold lineS actB
  split
  · simp only [List.length_append, List.length_cons, List.length_nil]; omega
  split
  · simp only [List.length_append, List.length_cons, List.length_nil]; omega
  split
  · simp only [List.length_append, List.length_cons, List.length_nil]; omega
  split
  · simp only [List.length_append, List.length_cons, List.length_nil]; omega
  split
  · simp only [List.length_append, List.length_cons, List.length_nil]; omega
  split
  · simp only [List.length_cons, List.length_nil]; omega
  · simp only [List.length_nil]; omega
theorem script_len (aa : List PAct) (h : ∀ a ∈ aa, Fits a) : (script aa).length ≤ 22 * (aa.map actB).sum := by
  induction aa with
  | nil => simp [script]
  | cons a r ih =>
    have h1 := ih fun x hx => h x (List.mem_cons_of_mem _ hx)
    have h2 := line_len a (h a List.mem_cons_self)
    simp only [script, List.flatMap_cons, List.length_append, List.map_cons, List.sum_cons, List.length_cons, List.length_nil] at h1 ⊢
    omega
theorem acts_len (aa : List PAct) : aa.length ≤ (aa.map actB).sum := by
  induction aa with
  | nil => simp
  | cons a r ih =>
    simp only [List.length_cons, List.map_cons, List.sum_cons, actB] at ih ⊢
    omega
end Go.Proofs.YtbfoocginkdmcaaGreatDoor
