/-
  The server's Print.
-/
import Derived.Test.YtbfoocginkdmcaaGreatDoorWF

set_option linter.unusedVariables false
set_option maxRecDepth 100000
set_option maxHeartbeats 8000000
namespace Go.Proofs.YtbfoocginkdmcaaGreatDoor
open Go Go.RowKit Go.Basic Go.ArgS Go.Scr Go.Lib

theorem others_block {w w' : World} {bk k : Nat} {c : Array Value} (h : OthersKept 5 (some bk) w w') (hk : w.heap[k]? = some (.cells c 36 (0, 0))) (hne : k ≠ bk) : w'.heap[k]? = some (.cells c 36 (0, 0)) :=
  h k _ hk (by simpa using hne) (fun c' fz e => by simp at e)

theorem builder_lt {B b : Nat} {bs : List Value} {w : World} (h : IsBuilderF 83 5 B b bs w) : b < w.heap.size := h.elim (fun x => x.lt) (fun x => x.lt)

theorem print_step_below {wr w2 w3 : World} {o1 o2 : Obj} (h2 : Below (wr.alloc o1).heap.size (wr.alloc o1) w2) (h3 : Below (w2.alloc o2).heap.size (w2.alloc o2) w3) : Below wr.heap.size wr w3 := by
  have hs : (wr.alloc o1).heap.size = wr.heap.size + 1 := by simp
  have hs2 : (w2.alloc o2).heap.size = w2.heap.size + 1 := by simp
  have h4 := h2.size
  exact ((((Below.refl wr.heap.size wr).alloc (Nat.le_refl _) o1).trans (h2.mono (by omega))).alloc (by omega) o2).trans (h3.mono (by omega))

theorem print_step_block {w2 w3 : World} {o2 : Obj} {g : Nat} {x : Obj} (h : w2.heap[g]? = some x) (h3 : Below (w2.alloc o2).heap.size (w2.alloc o2) w3) : w3.heap[g]? = some x := by
  have hl : g < w2.heap.size := by
    rcases Nat.lt_or_ge g w2.heap.size with h' | h'
    · exact h'
    · rw [Array.getElem?_eq_none h'] at h; cases h
  exact (h3.block g (by simp; omega)).trans ((Below.heap_alloc w2 o2 g hl).trans h)

theorem print_size {S : ByteArray} {aa : List PAct} {k : Nat} {n : Nat} (hS : S.size = n) (h : (script (aa.take k)).length + n + 1 ≤ 100000000) : (byteCells (script (aa.take k))).length + (S ++ ⟨#[10]⟩).size ≤ 140737488355328 := by
  rw [byteCells_length, ByteArray.size_append]
  have h1 : (⟨#[10]⟩ : ByteArray).size = 1 := rfl
  omega

theorem print_calls (v : Value) (aa : List PAct) (w : World) (h : IsActs w v aa) (hf : ∀ a ∈ aa, Fits a) (hl : aa.length ≤ 1100000) (hT : (script aa).length ≤ 100000000) (htab : Tab w) :
    Calls Tryz.prog 19 #[v] w (PrintOut w aa) := by
  obtain ⟨oa, cap, rfl⟩ := h.slice
  by_cases hlen : 4096 < aa.length
  · have hlen' : (4096 : Int) < (aa.length : Int) := by omega
    go_enter Tryz.func19, Tryz.ntmps19
    go_wp2
    go_ret2
    unfold PrintOut
    exact ⟨⟨#[]⟩, by simp [printS, hlen], by simp [printS, hlen], Below.refl _ _⟩
  · have hlen' : ¬ (4096 : Int) < (aa.length : Int) := by omega
    have hlenI : (aa.length : Int) ≤ 9223372036854775807 := by omega
    go_enter Tryz.func19, Tryz.ntmps19
    go_wp2
    have hI0 : IsBuilderF 83 5 w.heap.size w.heap.size (byteCells (script (aa.take 0))) (w.alloc (.cells #[.pointer none, .slice none 0 0] 83)) := IsBuilderF.of (fresh_isBuilder 83 5 w)
    go_loopw [5, 15] (fun wd i wr => ∃ (k : Nat) (wb : Bool), k ≤ aa.length ∧ i = .int .i64 k ∧ wd = .bool wb ∧ Hid (wb = (aa.take k).any wideA) ∧ Hid (∀ a ∈ aa.take k, okA a = true) ∧ IsBuilderF 83 5 w.heap.size w.heap.size (byteCells (script (aa.take k))) wr ∧ Below w.heap.size w wr) (fun _ i _ => aa.length - (intOf i).toNat)
    case atStart => exact ⟨0, false, Nat.zero_le _, rfl, rfl, rfl, (fun a ha => by simp at ha), hI0, (Below.refl _ _).alloc (Nat.le_refl _) _⟩
    case round =>
      clear hI0
      obtain ⟨k, wb, hk, rfl, rfl, hwb, hok, hI, hbw⟩ := hrel
      by_cases hlt : k < aa.length
      · have hlt' : (k : Int) < (aa.length : Int) := by omega
        obtain ⟨a, ha⟩ : ∃ a, aa[k]? = some a := ⟨aa[k], List.getElem?_eq_getElem hlt⟩
        obtain ⟨b, off, cap', ax, cx, ay, cy, ev, c0, c1, c2, c3, c4, c5, c6, c7, hx, hy⟩ := h.at ha
        cases ev
        have hfa := hf a (List.mem_of_getElem? ha)
        have hbl : b < w.heap.size := World.block_lt_of_cell? w _ c0
        have g0 := (hbw.cell (p := ⟨b, off + k * 8, none⟩) hbl).trans c0
        have g1 := (hbw.cell (p := ⟨b, off + k * 8 + 1, none⟩) hbl).trans c1
        have g2 := (hbw.cell (p := ⟨b, off + k * 8 + 2, none⟩) hbl).trans c2
        have g3 := (hbw.cell (p := ⟨b, off + k * 8 + 3, none⟩) hbl).trans c3
        have g4 := (hbw.cell (p := ⟨b, off + k * 8 + 4, none⟩) hbl).trans c4
        have g5 := (hbw.cell (p := ⟨b, off + k * 8 + 5, none⟩) hbl).trans c5
        have g6 := (hbw.cell (p := ⟨b, off + k * 8 + 6, none⟩) hbl).trans c6
        have g7 := (hbw.cell (p := ⟨b, off + k * 8 + 7, none⟩) hbl).trans c7
        clear c0 c1 c2 c3 c4 c5 c6 c7
        have bW1 : Below w.heap.size w (wr.alloc (.cells (actCells a ax cx ay cy).toArray 36)) := hbw.alloc hbw.size _
        have hcall := line_calls _ a _ ⟨ax, cx, ay, cy, rfl, hx.below bW1, hy.below bW1⟩ hfa (tab_below htab bW1)
        have hbk := builder_lt hI
        have hwle := hbw.size
        have hst := script_take aa k ha
        have hsl := script_len_take aa (k + 1)
        rw [hst] at hsl
        simp only [List.length_append, List.length_cons, List.length_nil] at hsl
        have hln : (lineS a).length ≤ 100000000 := by omega
        have hln2 : (script (aa.take k)).length + (lineS a).length + 1 ≤ 100000000 := by omega
        clear hst hsl
        cases hoa : okA a with
        | false =>
          go_wp2_with (first
            | (go_at_call 35; refine hcall.mono ?_; clear hcall; rintro e w2 ⟨S, tv, rfl, hS, htold, bel2⟩; (obtain ⟨k', t', o', n', q', s', x', y', d', q1, l', q2, rfl, hwh⟩ := htold); rw [hoa] at hwh; (have hSz := size_of_list hS); (have hSh : Hid (S.data.toList = lineS a) := hS); clear hS; (have f36 := fun W => whole_calls a.kind k' a.now t' a.outcome o' a.n n' a.dir q' a.raw s' ax x' ay y' a.draws.length d' cx q1 a.tails.length l' cy q2 W); simp only [hwh] at f36; clear hwh; (have hblk2 : w2.heap[wr.heap.size]? = some (.cells (actCells a ax cx ay cy).toArray 36 (0, 0)) := (bel2.block _ (by simp)).trans (heap_alloc_new _ _)); (have d0 : w2.cell? ⟨wr.heap.size, 0, none⟩ = some (.int .i64 a.kind) := cell_of_row w2 _ 0 _ 36 _ hblk2); (have d1 : w2.cell? ⟨wr.heap.size, 1, none⟩ = some (.string a.raw) := cell_of_row w2 _ 1 _ 36 _ hblk2); (have d2 : w2.cell? ⟨wr.heap.size, 2, none⟩ = some (.slice ax a.draws.length cx) := cell_of_row w2 _ 2 _ 36 _ hblk2); (have d3 : w2.cell? ⟨wr.heap.size, 3, none⟩ = some (.int .u64 (a.now : Int)) := cell_of_row w2 _ 3 _ 36 _ hblk2); (have d4 : w2.cell? ⟨wr.heap.size, 4, none⟩ = some (.int .i64 a.outcome) := cell_of_row w2 _ 4 _ 36 _ hblk2); (have d5 : w2.cell? ⟨wr.heap.size, 5, none⟩ = some (.int .i64 a.n) := cell_of_row w2 _ 5 _ 36 _ hblk2); (have d6 : w2.cell? ⟨wr.heap.size, 6, none⟩ = some (.int .i64 a.dir) := cell_of_row w2 _ 6 _ 36 _ hblk2); (have d7 : w2.cell? ⟨wr.heap.size, 7, none⟩ = some (.slice ay a.tails.length cy) := cell_of_row w2 _ 7 _ 36 _ hblk2); (have hlt2 : wr.heap.size < w2.heap.size := Nat.lt_of_lt_of_le (by simp) bel2.size); (have y1 : ¬ 9223372036854775807 < S.size + 1 := by omega))
            | (go_at_call 36; refine (f36 _).mono ?_; clear f36; rintro e w3 ⟨rfl, bel3⟩; (have b13 := print_step_below bel2 bel3); (have hblk3 := print_step_block hblk2 bel3); (have hI3 := builder_below hI b13); (have b3 : Below w.heap.size w w3 := hbw.trans (b13.mono hwle)); (have hsz3 := print_size (S := S) (k := k) (aa := aa) hSz hln2); (have hws3 := b3.size)))
          go_ret2
          unfold PrintOut
          have hall : aa.all okA = false := List.all_eq_false.2 ⟨a, List.mem_of_getElem? ha, by simp [hoa]⟩
          exact ⟨⟨#[]⟩, by simp [printS, hlen, hall], by simp [printS, hlen, hall], b3⟩
        | true =>
          have hrl : a.raw.data.toList.length ≤ 10000000 := by have := hfa.raw; simp; omega
          obtain ⟨gc, bw, hbb⟩ := bytes_of a.raw
          have hconv := fun w0 => (hbb w0).1
          have hB := fun w0 => (hbb w0).2.1
          have hBel := fun w0 => (hbb w0).2.2
          clear hbb
          cases wb with
          | true =>
            go_wp2_with (first
              | (go_at_call 35; refine hcall.mono ?_; clear hcall; rintro e w2 ⟨S, tv, rfl, hS, htold, bel2⟩; (obtain ⟨k', t', o', n', q', s', x', y', d', q1, l', q2, rfl, hwh⟩ := htold); rw [hoa] at hwh; (have hSz := size_of_list hS); (have hSh : Hid (S.data.toList = lineS a) := hS); clear hS; (have f36 := fun W => whole_calls a.kind k' a.now t' a.outcome o' a.n n' a.dir q' a.raw s' ax x' ay y' a.draws.length d' cx q1 a.tails.length l' cy q2 W); simp only [hwh] at f36; clear hwh; (have hblk2 : w2.heap[wr.heap.size]? = some (.cells (actCells a ax cx ay cy).toArray 36 (0, 0)) := (bel2.block _ (by simp)).trans (heap_alloc_new _ _)); (have d0 : w2.cell? ⟨wr.heap.size, 0, none⟩ = some (.int .i64 a.kind) := cell_of_row w2 _ 0 _ 36 _ hblk2); (have d1 : w2.cell? ⟨wr.heap.size, 1, none⟩ = some (.string a.raw) := cell_of_row w2 _ 1 _ 36 _ hblk2); (have d2 : w2.cell? ⟨wr.heap.size, 2, none⟩ = some (.slice ax a.draws.length cx) := cell_of_row w2 _ 2 _ 36 _ hblk2); (have d3 : w2.cell? ⟨wr.heap.size, 3, none⟩ = some (.int .u64 (a.now : Int)) := cell_of_row w2 _ 3 _ 36 _ hblk2); (have d4 : w2.cell? ⟨wr.heap.size, 4, none⟩ = some (.int .i64 a.outcome) := cell_of_row w2 _ 4 _ 36 _ hblk2); (have d5 : w2.cell? ⟨wr.heap.size, 5, none⟩ = some (.int .i64 a.n) := cell_of_row w2 _ 5 _ 36 _ hblk2); (have d6 : w2.cell? ⟨wr.heap.size, 6, none⟩ = some (.int .i64 a.dir) := cell_of_row w2 _ 6 _ 36 _ hblk2); (have d7 : w2.cell? ⟨wr.heap.size, 7, none⟩ = some (.slice ay a.tails.length cy) := cell_of_row w2 _ 7 _ 36 _ hblk2); (have hlt2 : wr.heap.size < w2.heap.size := Nat.lt_of_lt_of_le (by simp) bel2.size); (have y1 : ¬ 9223372036854775807 < S.size + 1 := by omega))
              | (go_at_call 36; refine (f36 _).mono ?_; clear f36; rintro e w3 ⟨rfl, bel3⟩; (have b13 := print_step_below bel2 bel3); (have hblk3 := print_step_block hblk2 bel3); (have hI3 := builder_below hI b13); (have b3 : Below w.heap.size w w3 := hbw.trans (b13.mono hwle)); (have hsz3 := print_size (S := S) (k := k) (aa := aa) hSz hln2); (have hws3 := b3.size))
              | (go_at_call 37; (with_reducible refine (writeString_calls w.heap.size w.heap.size (byteCells (script (aa.take k))) (S ++ ⟨#[10]⟩) w3 hI3 hsz3 hws3).mono ?_); rintro e w4 ⟨rfl, hB4, bel4, ok4⟩; (have b4 : Below w.heap.size w w4 := b3.trans bel4); (have hblk4 := others_block ok4 hblk3 (Nat.ne_of_gt hbk)); (have e1 : w4.cell? ⟨wr.heap.size, 1, none⟩ = some (.string a.raw) := cell_of_row w4 _ 1 _ 36 _ hblk4); (have e2 : w4.cell? ⟨wr.heap.size, 2, none⟩ = some (.slice ax a.draws.length cx) := cell_of_row w4 _ 2 _ 36 _ hblk4); (have hlt4 : wr.heap.size < w4.heap.size := block_lt_of_cell e1)))
            have hst2 := script_take aa k ha
            have hrow : byteCells (script (aa.take k)) ++ strCells (S ++ ⟨#[10]⟩) = byteCells (script (aa.take (k + 1))) := by
              rw [hst2, strCells_eq, ByteArray.data_append, Array.toList_append, show S.data.toList = lineS a from hSh]
              simp [byteCells]
            have hI4 : IsBuilderF 83 5 w.heap.size w.heap.size (byteCells (script (aa.take (k + 1)))) w4 := .inr (by rw [← hrow]; exact hB4)
            have hok' : Hid (∀ x ∈ aa.take (k + 1), okA x = true) := fun x hx => (mem_take_succ ha hx).elim (fun h => hok x h) (fun h => by rw [h]; exact hoa)
            have hany' : (aa.take (k + 1)).any wideA = ((aa.take k).any wideA || wideA a) := by rw [List.take_add_one, ha]; simp
            refine ⟨⟨k + 1, true, hlt, (by first | rfl | simp), (by first | rfl | (congr 1; simp; omega)), (by show _ = _; rw [hany', ← show true = _ from hwb]; simp), hok', hI4, b4⟩, ?_⟩
            simp only [intOf]
            omega
          | false =>
            by_cases l1 : 65536 < (word a.draws).length
            · go_wp2_with (first
                | (go_at_call 35; refine hcall.mono ?_; clear hcall; rintro e w2 ⟨S, tv, rfl, hS, htold, bel2⟩; (obtain ⟨k', t', o', n', q', s', x', y', d', q1, l', q2, rfl, hwh⟩ := htold); rw [hoa] at hwh; (have hSz := size_of_list hS); (have hSh : Hid (S.data.toList = lineS a) := hS); clear hS; (have f36 := fun W => whole_calls a.kind k' a.now t' a.outcome o' a.n n' a.dir q' a.raw s' ax x' ay y' a.draws.length d' cx q1 a.tails.length l' cy q2 W); simp only [hwh] at f36; clear hwh; (have hblk2 : w2.heap[wr.heap.size]? = some (.cells (actCells a ax cx ay cy).toArray 36 (0, 0)) := (bel2.block _ (by simp)).trans (heap_alloc_new _ _)); (have d0 : w2.cell? ⟨wr.heap.size, 0, none⟩ = some (.int .i64 a.kind) := cell_of_row w2 _ 0 _ 36 _ hblk2); (have d1 : w2.cell? ⟨wr.heap.size, 1, none⟩ = some (.string a.raw) := cell_of_row w2 _ 1 _ 36 _ hblk2); (have d2 : w2.cell? ⟨wr.heap.size, 2, none⟩ = some (.slice ax a.draws.length cx) := cell_of_row w2 _ 2 _ 36 _ hblk2); (have d3 : w2.cell? ⟨wr.heap.size, 3, none⟩ = some (.int .u64 (a.now : Int)) := cell_of_row w2 _ 3 _ 36 _ hblk2); (have d4 : w2.cell? ⟨wr.heap.size, 4, none⟩ = some (.int .i64 a.outcome) := cell_of_row w2 _ 4 _ 36 _ hblk2); (have d5 : w2.cell? ⟨wr.heap.size, 5, none⟩ = some (.int .i64 a.n) := cell_of_row w2 _ 5 _ 36 _ hblk2); (have d6 : w2.cell? ⟨wr.heap.size, 6, none⟩ = some (.int .i64 a.dir) := cell_of_row w2 _ 6 _ 36 _ hblk2); (have d7 : w2.cell? ⟨wr.heap.size, 7, none⟩ = some (.slice ay a.tails.length cy) := cell_of_row w2 _ 7 _ 36 _ hblk2); (have hlt2 : wr.heap.size < w2.heap.size := Nat.lt_of_lt_of_le (by simp) bel2.size); (have y1 : ¬ 9223372036854775807 < S.size + 1 := by omega))
                | (go_at_call 36; refine (f36 _).mono ?_; clear f36; rintro e w3 ⟨rfl, bel3⟩; (have b13 := print_step_below bel2 bel3); (have hblk3 := print_step_block hblk2 bel3); (have hI3 := builder_below hI b13); (have b3 : Below w.heap.size w w3 := hbw.trans (b13.mono hwle)); (have hsz3 := print_size (S := S) (k := k) (aa := aa) hSz hln2); (have hws3 := b3.size))
                | (go_at_call 37; (with_reducible refine (writeString_calls w.heap.size w.heap.size (byteCells (script (aa.take k))) (S ++ ⟨#[10]⟩) w3 hI3 hsz3 hws3).mono ?_); rintro e w4 ⟨rfl, hB4, bel4, ok4⟩; (have b4 : Below w.heap.size w w4 := b3.trans bel4); (have hblk4 := others_block ok4 hblk3 (Nat.ne_of_gt hbk)); (have e1 : w4.cell? ⟨wr.heap.size, 1, none⟩ = some (.string a.raw) := cell_of_row w4 _ 1 _ 36 _ hblk4); (have e2 : w4.cell? ⟨wr.heap.size, 2, none⟩ = some (.slice ax a.draws.length cx) := cell_of_row w4 _ 2 _ 36 _ hblk4); (have hlt4 : wr.heap.size < w4.heap.size := block_lt_of_cell e1); (have hc1 := coded_calls _ a.draws w4 (hx.below b4) (by have := hfa.draws; omega)))
                | (go_at_call 38; (with_reducible refine hc1.mono ?_); rintro e w5 ⟨S5, rfl, hS5, bel5⟩; (have hz5 := size_of_list hS5); clear hS5; (have t5 : (65536 : Int) < (S5.size : Int) := by omega); (have f1 := (bel5.cell (p := ⟨wr.heap.size, 1, none⟩) hlt4).trans e1); skip))
              have hst2 := script_take aa k ha
              have hrow : byteCells (script (aa.take k)) ++ strCells (S ++ ⟨#[10]⟩) = byteCells (script (aa.take (k + 1))) := by
                rw [hst2, strCells_eq, ByteArray.data_append, Array.toList_append, show S.data.toList = lineS a from hSh]
                simp [byteCells]
              have hI4 : IsBuilderF 83 5 w.heap.size w.heap.size (byteCells (script (aa.take (k + 1)))) w4 := .inr (by rw [← hrow]; exact hB4)
              have hok' : Hid (∀ x ∈ aa.take (k + 1), okA x = true) := fun x hx => (mem_take_succ ha hx).elim (fun h => hok x h) (fun h => by rw [h]; exact hoa)
              have hany' : (aa.take (k + 1)).any wideA = ((aa.take k).any wideA || wideA a) := by rw [List.take_add_one, ha]; simp
              refine ⟨⟨k + 1, true, hlt, (by first | rfl | simp), (by first | rfl | (congr 1; simp; omega)), (by show _ = _; rw [hany', ← show false = _ from hwb]; have h3 : wideA a = true := (by unfold wideA; simp; omega); rw [h3]; simp), hok', (builder_below hI4 bel5), (b4.trans (bel5.mono b4.size))⟩, ?_⟩
              simp only [intOf]
              omega
            · by_cases l2 : 65536 < (word a.raw.data.toList).length
              · go_wp2_with (first
                  | (go_at_call 35; refine hcall.mono ?_; clear hcall; rintro e w2 ⟨S, tv, rfl, hS, htold, bel2⟩; (obtain ⟨k', t', o', n', q', s', x', y', d', q1, l', q2, rfl, hwh⟩ := htold); rw [hoa] at hwh; (have hSz := size_of_list hS); (have hSh : Hid (S.data.toList = lineS a) := hS); clear hS; (have f36 := fun W => whole_calls a.kind k' a.now t' a.outcome o' a.n n' a.dir q' a.raw s' ax x' ay y' a.draws.length d' cx q1 a.tails.length l' cy q2 W); simp only [hwh] at f36; clear hwh; (have hblk2 : w2.heap[wr.heap.size]? = some (.cells (actCells a ax cx ay cy).toArray 36 (0, 0)) := (bel2.block _ (by simp)).trans (heap_alloc_new _ _)); (have d0 : w2.cell? ⟨wr.heap.size, 0, none⟩ = some (.int .i64 a.kind) := cell_of_row w2 _ 0 _ 36 _ hblk2); (have d1 : w2.cell? ⟨wr.heap.size, 1, none⟩ = some (.string a.raw) := cell_of_row w2 _ 1 _ 36 _ hblk2); (have d2 : w2.cell? ⟨wr.heap.size, 2, none⟩ = some (.slice ax a.draws.length cx) := cell_of_row w2 _ 2 _ 36 _ hblk2); (have d3 : w2.cell? ⟨wr.heap.size, 3, none⟩ = some (.int .u64 (a.now : Int)) := cell_of_row w2 _ 3 _ 36 _ hblk2); (have d4 : w2.cell? ⟨wr.heap.size, 4, none⟩ = some (.int .i64 a.outcome) := cell_of_row w2 _ 4 _ 36 _ hblk2); (have d5 : w2.cell? ⟨wr.heap.size, 5, none⟩ = some (.int .i64 a.n) := cell_of_row w2 _ 5 _ 36 _ hblk2); (have d6 : w2.cell? ⟨wr.heap.size, 6, none⟩ = some (.int .i64 a.dir) := cell_of_row w2 _ 6 _ 36 _ hblk2); (have d7 : w2.cell? ⟨wr.heap.size, 7, none⟩ = some (.slice ay a.tails.length cy) := cell_of_row w2 _ 7 _ 36 _ hblk2); (have hlt2 : wr.heap.size < w2.heap.size := Nat.lt_of_lt_of_le (by simp) bel2.size); (have y1 : ¬ 9223372036854775807 < S.size + 1 := by omega))
                  | (go_at_call 36; refine (f36 _).mono ?_; clear f36; rintro e w3 ⟨rfl, bel3⟩; (have b13 := print_step_below bel2 bel3); (have hblk3 := print_step_block hblk2 bel3); (have hI3 := builder_below hI b13); (have b3 : Below w.heap.size w w3 := hbw.trans (b13.mono hwle)); (have hsz3 := print_size (S := S) (k := k) (aa := aa) hSz hln2); (have hws3 := b3.size))
                  | (go_at_call 37; (with_reducible refine (writeString_calls w.heap.size w.heap.size (byteCells (script (aa.take k))) (S ++ ⟨#[10]⟩) w3 hI3 hsz3 hws3).mono ?_); rintro e w4 ⟨rfl, hB4, bel4, ok4⟩; (have b4 : Below w.heap.size w w4 := b3.trans bel4); (have hblk4 := others_block ok4 hblk3 (Nat.ne_of_gt hbk)); (have e1 : w4.cell? ⟨wr.heap.size, 1, none⟩ = some (.string a.raw) := cell_of_row w4 _ 1 _ 36 _ hblk4); (have e2 : w4.cell? ⟨wr.heap.size, 2, none⟩ = some (.slice ax a.draws.length cx) := cell_of_row w4 _ 2 _ 36 _ hblk4); (have hlt4 : wr.heap.size < w4.heap.size := block_lt_of_cell e1); (have hc1 := coded_calls _ a.draws w4 (hx.below b4) (by have := hfa.draws; omega)))
                  | (go_at_call 38; (with_reducible refine hc1.mono ?_); rintro e w5 ⟨S5, rfl, hS5, bel5⟩; (have hz5 := size_of_list hS5); clear hS5; (have t5 : ¬ (65536 : Int) < (S5.size : Int) := by omega); (have f1 := (bel5.cell (p := ⟨wr.heap.size, 1, none⟩) hlt4).trans e1); (have b5w := bel5.trans ((hBel w5).mono bel5.size)))
                  | (go_at_call 38; (with_reducible refine (coded_calls _ a.raw.data.toList (bw w5) (hB w5) hrl).mono ?_); rintro e w6 ⟨S6, rfl, hS6, bel6⟩; (have hz6 := size_of_list hS6); clear hS6; (have t6 : (65536 : Int) < (S6.size : Int) := by omega)))
                have hst2 := script_take aa k ha
                have hrow : byteCells (script (aa.take k)) ++ strCells (S ++ ⟨#[10]⟩) = byteCells (script (aa.take (k + 1))) := by
                  rw [hst2, strCells_eq, ByteArray.data_append, Array.toList_append, show S.data.toList = lineS a from hSh]
                  simp [byteCells]
                have hI4 : IsBuilderF 83 5 w.heap.size w.heap.size (byteCells (script (aa.take (k + 1)))) w4 := .inr (by rw [← hrow]; exact hB4)
                have hok' : Hid (∀ x ∈ aa.take (k + 1), okA x = true) := fun x hx => (mem_take_succ ha hx).elim (fun h => hok x h) (fun h => by rw [h]; exact hoa)
                have hany' : (aa.take (k + 1)).any wideA = ((aa.take k).any wideA || wideA a) := by rw [List.take_add_one, ha]; simp
                refine ⟨⟨k + 1, true, hlt, (by first | rfl | simp), (by first | rfl | (congr 1; simp; omega)), (by show _ = _; rw [hany', ← show false = _ from hwb]; have h3 : wideA a = true := (by unfold wideA; simp; omega); rw [h3]; simp), hok', (builder_below hI4 (bel5.trans (((hBel w5).trans (bel6.mono (hBel w5).size)).mono bel5.size))), (b4.trans ((bel5.trans (((hBel w5).trans (bel6.mono (hBel w5).size)).mono bel5.size)).mono b4.size))⟩, ?_⟩
                simp only [intOf]
                omega
              · go_wp2_with (first
                  | (go_at_call 35; refine hcall.mono ?_; clear hcall; rintro e w2 ⟨S, tv, rfl, hS, htold, bel2⟩; (obtain ⟨k', t', o', n', q', s', x', y', d', q1, l', q2, rfl, hwh⟩ := htold); rw [hoa] at hwh; (have hSz := size_of_list hS); (have hSh : Hid (S.data.toList = lineS a) := hS); clear hS; (have f36 := fun W => whole_calls a.kind k' a.now t' a.outcome o' a.n n' a.dir q' a.raw s' ax x' ay y' a.draws.length d' cx q1 a.tails.length l' cy q2 W); simp only [hwh] at f36; clear hwh; (have hblk2 : w2.heap[wr.heap.size]? = some (.cells (actCells a ax cx ay cy).toArray 36 (0, 0)) := (bel2.block _ (by simp)).trans (heap_alloc_new _ _)); (have d0 : w2.cell? ⟨wr.heap.size, 0, none⟩ = some (.int .i64 a.kind) := cell_of_row w2 _ 0 _ 36 _ hblk2); (have d1 : w2.cell? ⟨wr.heap.size, 1, none⟩ = some (.string a.raw) := cell_of_row w2 _ 1 _ 36 _ hblk2); (have d2 : w2.cell? ⟨wr.heap.size, 2, none⟩ = some (.slice ax a.draws.length cx) := cell_of_row w2 _ 2 _ 36 _ hblk2); (have d3 : w2.cell? ⟨wr.heap.size, 3, none⟩ = some (.int .u64 (a.now : Int)) := cell_of_row w2 _ 3 _ 36 _ hblk2); (have d4 : w2.cell? ⟨wr.heap.size, 4, none⟩ = some (.int .i64 a.outcome) := cell_of_row w2 _ 4 _ 36 _ hblk2); (have d5 : w2.cell? ⟨wr.heap.size, 5, none⟩ = some (.int .i64 a.n) := cell_of_row w2 _ 5 _ 36 _ hblk2); (have d6 : w2.cell? ⟨wr.heap.size, 6, none⟩ = some (.int .i64 a.dir) := cell_of_row w2 _ 6 _ 36 _ hblk2); (have d7 : w2.cell? ⟨wr.heap.size, 7, none⟩ = some (.slice ay a.tails.length cy) := cell_of_row w2 _ 7 _ 36 _ hblk2); (have hlt2 : wr.heap.size < w2.heap.size := Nat.lt_of_lt_of_le (by simp) bel2.size); (have y1 : ¬ 9223372036854775807 < S.size + 1 := by omega))
                  | (go_at_call 36; refine (f36 _).mono ?_; clear f36; rintro e w3 ⟨rfl, bel3⟩; (have b13 := print_step_below bel2 bel3); (have hblk3 := print_step_block hblk2 bel3); (have hI3 := builder_below hI b13); (have b3 : Below w.heap.size w w3 := hbw.trans (b13.mono hwle)); (have hsz3 := print_size (S := S) (k := k) (aa := aa) hSz hln2); (have hws3 := b3.size))
                  | (go_at_call 37; (with_reducible refine (writeString_calls w.heap.size w.heap.size (byteCells (script (aa.take k))) (S ++ ⟨#[10]⟩) w3 hI3 hsz3 hws3).mono ?_); rintro e w4 ⟨rfl, hB4, bel4, ok4⟩; (have b4 : Below w.heap.size w w4 := b3.trans bel4); (have hblk4 := others_block ok4 hblk3 (Nat.ne_of_gt hbk)); (have e1 : w4.cell? ⟨wr.heap.size, 1, none⟩ = some (.string a.raw) := cell_of_row w4 _ 1 _ 36 _ hblk4); (have e2 : w4.cell? ⟨wr.heap.size, 2, none⟩ = some (.slice ax a.draws.length cx) := cell_of_row w4 _ 2 _ 36 _ hblk4); (have hlt4 : wr.heap.size < w4.heap.size := block_lt_of_cell e1); (have hc1 := coded_calls _ a.draws w4 (hx.below b4) (by have := hfa.draws; omega)))
                  | (go_at_call 38; (with_reducible refine hc1.mono ?_); rintro e w5 ⟨S5, rfl, hS5, bel5⟩; (have hz5 := size_of_list hS5); clear hS5; (have t5 : ¬ (65536 : Int) < (S5.size : Int) := by omega); (have f1 := (bel5.cell (p := ⟨wr.heap.size, 1, none⟩) hlt4).trans e1); (have b5w := bel5.trans ((hBel w5).mono bel5.size)))
                  | (go_at_call 38; (with_reducible refine (coded_calls _ a.raw.data.toList (bw w5) (hB w5) hrl).mono ?_); rintro e w6 ⟨S6, rfl, hS6, bel6⟩; (have hz6 := size_of_list hS6); clear hS6; (have t6 : ¬ (65536 : Int) < (S6.size : Int) := by omega)))
                have hst2 := script_take aa k ha
                have hrow : byteCells (script (aa.take k)) ++ strCells (S ++ ⟨#[10]⟩) = byteCells (script (aa.take (k + 1))) := by
                  rw [hst2, strCells_eq, ByteArray.data_append, Array.toList_append, show S.data.toList = lineS a from hSh]
                  simp [byteCells]
                have hI4 : IsBuilderF 83 5 w.heap.size w.heap.size (byteCells (script (aa.take (k + 1)))) w4 := .inr (by rw [← hrow]; exact hB4)
                have hok' : Hid (∀ x ∈ aa.take (k + 1), okA x = true) := fun x hx => (mem_take_succ ha hx).elim (fun h => hok x h) (fun h => by rw [h]; exact hoa)
                have hany' : (aa.take (k + 1)).any wideA = ((aa.take k).any wideA || wideA a) := by rw [List.take_add_one, ha]; simp
                refine ⟨⟨k + 1, false, hlt, (by first | rfl | simp), (by first | rfl | (congr 1; simp; omega)), (by show _ = _; rw [hany', ← show false = _ from hwb]; have h3 : wideA a = false := (by unfold wideA; simp; omega); rw [h3]; simp), hok', (builder_below hI4 (bel5.trans (((hBel w5).trans (bel6.mono (hBel w5).size)).mono bel5.size))), (b4.trans ((bel5.trans (((hBel w5).trans (bel6.mono (hBel w5).size)).mono bel5.size)).mono b4.size))⟩, ?_⟩
                simp only [intOf]
                omega
      · have hge : ¬ (k : Int) < (aa.length : Int) := by omega
        obtain rfl : k = aa.length := by omega
        rw [List.take_length] at hI
        have hany : Hid (wb = aa.any wideA) := by show _ = _; rw [show wb = _ from hwb, List.take_length]
        have hall : Hid (aa.all okA = true) := List.all_eq_true.2 fun x hx => hok x (by rw [List.take_length]; exact hx)
        clear hwb hok
        cases wb with
        | true =>
          go_wp2
          go_ret2
          unfold PrintOut
          have hP : printS aa = ([], 1) := by
            rw [printS, if_neg hlen, if_neg (by rw [show aa.all okA = true from hall]; simp), if_pos (.inl (show _ = _ from hany).symm)]
          exact ⟨⟨#[]⟩, by rw [hP]; rfl, by rw [hP], hbw⟩
        | false =>
          have hbl := byteCells_length (script aa)
          have hany2 : ¬ aa.any wideA = true := by rw [← show false = _ from hany]; simp
          have hany3 : Hid (¬ aa.any wideA = true) := hany2
          clear hany2 hany
          by_cases hlong : 1048576 < (script aa).length
          · have hlong' : (1048576 : Int) < ((byteCells (script aa)).length : Int) := by omega
            clear hbl
            go_wp2_with (go_at_call 39; refine (builderLen_calls _ _ _ _ hI).mono ?_; rintro e w9 ⟨rfl, rfl⟩)
            go_ret2
            unfold PrintOut
            have hP : printS aa = ([], 1) := by
              rw [printS, if_neg hlen, if_neg (by rw [show aa.all okA = true from hall]; simp), if_pos (.inr hlong)]
            exact ⟨⟨#[]⟩, by rw [hP]; rfl, by rw [hP], hbw⟩
          · have hlong' : ¬ (1048576 : Int) < ((byteCells (script aa)).length : Int) := by omega
            clear hbl
            have hstr := builderString_calls w.heap.size w.heap.size (script aa) wr hI hbw.size
            go_wp2_with (first
              | (go_at_call 39; refine (builderLen_calls _ _ _ _ hI).mono ?_; rintro e w9 ⟨rfl, rfl⟩)
              | (go_at_call 40; refine hstr.mono ?_; clear hstr; rintro e w9 ⟨rfl, _, bel9, _⟩))
            go_ret2
            unfold PrintOut
            have hP : printS aa = (script aa, 0) := by
              rw [printS, if_neg hlen, if_neg (by rw [show aa.all okA = true from hall]; simp), if_neg (by intro e; exact e.elim (show ¬ _ from hany3) (fun e => by omega))]
            exact ⟨⟨(script aa).toArray⟩, by rw [hP]; rfl, by rw [hP], hbw.trans bel9⟩
end Go.Proofs.YtbfoocginkdmcaaGreatDoor
