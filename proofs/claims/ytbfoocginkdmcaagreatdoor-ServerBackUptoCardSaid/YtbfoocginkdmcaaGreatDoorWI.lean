/-
  What the loop of parseLine at restart carries.
-/
import Derived.Test.YtbfoocginkdmcaaGreatDoorWG
import Derived.Deep.AppendLies
import Derived.Deep.RegionWith

set_option linter.unusedVariables false
set_option maxRecDepth 100000
set_option maxHeartbeats 4000000
namespace Go.Proofs.YtbfoocginkdmcaaGreatDoor
open Go Go.RowKit Go.ArgS Go.Basic Go.Scr Go.Lib
def zsU : List (List UInt8) → Option (List Int)
  | [] => some []
  | c :: t => match zOf c with
    | none => none
    | some n => (zsU t).map (n :: ·)
theorem zs_mapM : ∀ l : List (List UInt8), l.mapM zOf = zsU l
  | [] => rfl
  | c :: t => by
    rw [List.mapM_cons, zs_mapM t]
    conv => rhs; unfold zsU
    cases zOf c with
    | none => rfl
    | some n => cases zsU t <;> rfl
theorem zs_none {c : List UInt8} {t : List (List UInt8)} (h : zOf c = none) : zsU (c :: t) = none := by
  unfold zsU
  rw [h]
theorem zs_some {c : List UInt8} {n : Int} {t : List (List UInt8)} (h : zOf c = some n) : zsU (c :: t) = (zsU t).map (n :: ·) := by
  conv => lhs; unfold zsU
  rw [h]
theorem restart_one (x : List UInt8) : ofRestart [x] = none := by
  unfold ofRestart
  rw [zs_mapM]
  cases h : zOf x with
  | none => rw [zs_none h]
  | some n => rw [zs_some h]; rfl
theorem restart_bad1 {x : List UInt8} {t : List (List UInt8)} (h : zOf x = none) : ofRestart (x :: t) = none := by
  unfold ofRestart
  rw [zs_mapM, zs_none h]
theorem restart_bad2 {x y : List UInt8} {t : List (List UInt8)} (h : zOf y = none) : ofRestart (x :: y :: t) = none := by
  unfold ofRestart
  rw [zs_mapM]
  cases h1 : zOf x with
  | none => rw [zs_none h1]
  | some n => rw [zs_some h1, zs_none h]; rfl
theorem restart_two {x y : List UInt8} {t : List (List UInt8)} {n q : Int} (h1 : zOf x = some n) (h2 : zOf y = some q) : ofRestart (x :: y :: t) = (zsU t).map (act5 n q) := by
  unfold ofRestart
  rw [zs_mapM, zs_some h1, zs_some h2]
  cases zsU t <;> rfl
theorem int_to_bad (b g : Nat) (ws : List ByteArray) (bad : Bool) (w : World) (h : Rd w b g ws bad) (hl : ws.length ≤ 100000000) (hx : ∀ q ∈ ws, q.size ≤ 2000000) (hE : Env w b)
    (hbad : bad = true ∨ ws = [] ∨ ∃ x r, ws = x :: r ∧ zOf x.data.toList = none) :
    Calls Tryz.prog 51 #[.pointer (some ⟨b, 0, none⟩), .int .i64 (-9223372036854775808)] w fun e w' => ∃ n : Int, ∃ ws' : List ByteArray, e = .returned (.int .i64 n) ∧ w.grownBy w' (some b) ∧ Rd w' b g ws' true ∧ ws'.length ≤ ws.length ∧ ∀ q ∈ ws', q.size ≤ 2000000 := by
  match ws, hl, hx, h, hbad with
  | [], _, _, h, _ => exact (int_nil b g bad w h hE).mono fun e w' ⟨n, h1, h2, h3⟩ => ⟨n, [], h1, h2, h3, Nat.le_refl _, fun x hx => by cases hx⟩
  | x :: r, hl, hx, h, hbad =>
    have hxs := hx x (by simp)
    simp only [List.length_cons] at hl
    cases hz : zOf x.data.toList with
    | none => exact (int_none b g x r bad w h (by omega) hxs hE hz).mono fun e w' ⟨n, h1, h2, h3⟩ => ⟨n, r, h1, h2, h3, by simp, fun y hy => hx y (by simp [hy])⟩
    | some z =>
      refine (int_some b g x r bad w h (by omega) hxs hE z hz).mono fun e w' ⟨h1, h2, h3⟩ => ⟨z, r, h1, h2, ?_, by simp, fun y hy => hx y (by simp [hy])⟩
      rcases hbad with rfl | h6 | ⟨x', r', h6, h7⟩
      · exact h3
      · cases h6
      · cases h6
        rw [hz] at h7
        cases h7
theorem own_keptb {w w' : World} {B b : Nat} {e : TypeId} {v : Value} {n : Nat} {xs : List Value} (h : w.ownsRow B e 1 v n xs) (g : w.grownBy w' (some b)) (hb : b < B) : w'.ownsRow B e 1 v n xs :=
  h.kept (row := some b) g (by
    cases h9 : v.ownBlock with
    | none => exact .inl rfl
    | some k => exact .inr (by have := (h.lt k h9).1; simp; omega))
theorem St.kept {w0 w' w'' : World} {R g b a : Nat} {cs : List Value} {ws : List ByteArray} {bad : Bool} (h : St w0 w' R g b a cs ws bad) (hs : w'.heap.size ≤ w''.heap.size)
    (hk : ∀ k, k = R ∨ k = b ∨ k = g ∨ k = a → w''.heap[k]? = w'.heap[k]?) (hb : Below w0.heap.size w0 w'') : St w0 w'' R g b a cs ws bad where
  res := h.res.of_block (Nat.lt_of_lt_of_le h.res.1 hs) (hk R (.inl rfl))
  act := h.act.of_block (Nat.lt_of_lt_of_le h.act.1 hs) (hk a (.inr (.inr (.inr rfl))))
  rd := h.rd.of_block hs (hk b (.inr (.inl rfl))) (hk g (.inr (.inr (.inl rfl))))
  bel := hb
  lR := h.lR
  lb := h.lb
  la := h.la
  Rb := h.Rb
  Ra := h.Ra
  ba := h.ba
  ga := h.ga
theorem St.drew {w0 w' : World} {R g b a : Nat} {cs : List Value} {ws : List ByteArray} {bad : Bool} (h : St w0 w' R g b a cs ws bad) : St w0 w'.drew R g b a cs ws bad :=
  h.kept (Nat.le_refl _) (fun _ _ => rfl) h.bel.drew
theorem St.append {w0 w' w'' : World} {R g b a B : Nat} {cs : List Value} {ws : List ByteArray} {bad : Bool} {o : Obj} {row : Option Nat} (h : St w0 w' R g b a cs ws bad) (gr : (w'.alloc o).grownBy w'' row)
    (hrow : ∀ k, row = some k → B ≤ k) (hR : R < B) (hb : b < B) (hg : g < B) (ha : a < B) (h0 : w0.heap.size ≤ B) (hB : B ≤ w'.heap.size) : St w0 w'' R g b a cs ws bad := by
  have hsz : (w'.alloc o).heap.size = w'.heap.size + 1 := by simp
  have hs := gr.size
  refine h.kept (by omega) (fun k hk => ?_) ((h.bel.alloc h.bel.size o).grown gr (by omega) fun j hj => Nat.le_trans h0 (hrow j hj))
  have hkB : k < B := by rcases hk with rfl | rfl | rfl | rfl <;> assumption
  rw [gr.block k (by omega) (by intro e; have := hrow k e.symm; omega)]
  exact Below.heap_alloc w' o k (by omega)
def leftOf : Option Value → Nat
  | some (.slice _ n _) => n
  | _ => 0
theorem left_of {w0 w' : World} {R g b a : Nat} {cs : List Value} {ws : List ByteArray} {bad : Bool} (h : St w0 w' R g b a cs ws bad) : leftOf (w'.cell? ⟨b, 0, none⟩) = ws.length := by
  obtain ⟨o, hB, _⟩ := h.rd
  rw [hB.at 0 rfl]
  rfl
end Go.Proofs.YtbfoocginkdmcaaGreatDoor

/-
  parseLine at restart, where one of the first two numbers is none.
-/

namespace Go.Proofs.YtbfoocginkdmcaaGreatDoor
open Go Go.RowKit Go.ArgS Go.Basic Go.Scr Go.Lib
theorem line_restart_nil (s : ByteArray) (k : ByteArray)  (hp : piecesB 32 s = k :: []) (hk : k.data.toList = [114, 101, 115, 116, 97, 114, 116]) (hs : s.size ≤ 2000000) (hrl : ([] : List ByteArray).length ≤ 100000000) (hrx : ∀ q9 ∈ ([] : List ByteArray), q9.size ≤ 2000000) (w : World) (hW : Well w) :
    Calls Tryz.prog 25 #[.string s] w (LineOut w s.data.toList) := by
  have hline : ofLine s.data.toList = none := by
    rw [of_line hp, hk, act_restart]
    rfl
  obtain ⟨t0, t1, t2, t3, t4⟩ := ts_restart hk
  have hS := split_st hp hs hrl hW
  clear hk
  go_enter Tryz.func25, Tryz.ntmps25
  go_wp2_with (first
    | (go_at_call 23; refine hS.mono ?_; clear hS; rintro e w2 ⟨rfl, hwd⟩)
    | (go_at_call 48; refine hwd.mono ?_; clear hwd; rintro e w5 ⟨rfl, h5⟩; (have c50 := h5.act.at 0 rfl); (have f50 := h5.act.2.2 0); (have h6 := h5.set 0 (.int .i64 5) (by simp)); (have hE6 := hW.env h6.bel _ h6.lb))
    | (go_at_call 51; refine (int_to_bad _ _ _ _ _ h6.rd hrl hrx hE6 (.inr (.inl rfl))).mono ?_; rintro e w7 ⟨n, ws1, rfl, hgw7, hRw7, hl1, hx1⟩; (have h7 := h6.grown hgw7 hRw7); (have cw7 := h7.act.at 5 rfl); (have fw7 := h7.act.2.2 5); (have h8 := h7.set 5 (.int .i64 n) (by simp)); (have Eh8 := hW.env h8.bel _ h8.lb); clear hRw7 hgw7 h6)
    | (go_at_call 51; refine (int_to_bad _ _ _ _ _ h8.rd (Nat.le_trans hl1 hrl) hx1 Eh8 (.inl rfl)).mono ?_; rintro e w9 ⟨q, ws2, rfl, hgw9, hRw9, hl2, hx2⟩; (have h9 := h8.grown hgw9 hRw9); (have cw9 := h9.act.at 6 rfl); (have fw9 := h9.act.2.2 6); (have h10 := h9.set 6 (.int .i64 q) (by simp)); (have Eh10 := hW.env h10.bel _ h10.lb); clear hRw9 hgw9 h8)
)
  go_loopw [] (fun wr => St w wr w.heap.size (w.heap.size + 1) w2.heap.size (w2.heap.size + 1) [.int .i64 5, .string ⟨#[]⟩, .slice none 0 0, .int .u64 0, .int .i64 0, .int .i64 n, .int .i64 q, .slice none 0 0] ws2 true) (fun wr => leftOf (wr.cell? ⟨w2.heap.size, 0, none⟩))
  case atStart => exact h10
  case round =>
    have hst := hrel
    clear hrel h10 Eh10
    obtain ⟨o9, r0, r1, _⟩ := hst.all
    cases ws2 with
    | nil =>
      go_wp2_with fail
      skip
      obtain ⟨o9, r0, r1, d0, d1, d2, d3, d4, d5, d6, d7, e0, e1, e2, e3, e4, e5, e6, e7, fz, n0, n1, n2, n3⟩ := hst.all
      go_region
      all_goals go_wp2
      all_goals
        obtain ⟨b16, e0, e1, e2, e3, e4, e5, e6, e7⟩ := fin8 hst.res rfl hst.bel hst.lR (.int .i64 5) (.string ⟨#[]⟩) (.slice none 0 0) (.int .u64 0) (.int .i64 0) (.int .i64 n) (.int .i64 q) (.slice none 0 0) rfl
        try simp only [Exit.inBlock, Exit.then]
        refine bodyPost_ret (by simp [results, Tryz.results25, go_sem, e0, e1, e2, e3, e4, e5, e6, e7]; try rfl) rfl ?_
        unfold LineOut
        rw [hline]
        exact ⟨_, _, _, _, _, _, _, _, _, _, _, _, rfl, b16.drew, fun A hA => by cases hA⟩
    | cons y9 t9 =>
      have hl1 : ¬ (t9.length : Int) + 1 = 0 := by omega
      have hl2 : (0 : Int) < (t9.length : Int) + 1 := by omega
      go_wp2_with fail
      skip
      obtain ⟨o9, r0, r1, d0, d1, d2, d3, d4, d5, d6, d7, e0, e1, e2, e3, e4, e5, e6, e7, fz, n0, n1, n2, n3⟩ := hst.all
      go_region
      all_goals go_wp2
      all_goals
        obtain ⟨b16, e0, e1, e2, e3, e4, e5, e6, e7⟩ := fin8 hst.res rfl hst.bel hst.lR (.int .i64 5) (.string ⟨#[]⟩) (.slice none 0 0) (.int .u64 0) (.int .i64 0) (.int .i64 n) (.int .i64 q) (.slice none 0 0) rfl
        try simp only [Exit.inBlock, Exit.then]
        refine bodyPost_ret (by simp [results, Tryz.results25, go_sem, e0, e1, e2, e3, e4, e5, e6, e7]; try rfl) rfl ?_
        unfold LineOut
        rw [hline]
        exact ⟨_, _, _, _, _, _, _, _, _, _, _, _, rfl, b16.drew, fun A hA => by cases hA⟩
theorem line_restart_bad1 (s : ByteArray) (k : ByteArray) (x : ByteArray) (t : List ByteArray) (hz1 : zOf x.data.toList = none) (hp : piecesB 32 s = k :: (x :: t)) (hk : k.data.toList = [114, 101, 115, 116, 97, 114, 116]) (hs : s.size ≤ 2000000) (hrl : ((x :: t) : List ByteArray).length ≤ 100000000) (hrx : ∀ q9 ∈ ((x :: t) : List ByteArray), q9.size ≤ 2000000) (w : World) (hW : Well w) :
    Calls Tryz.prog 25 #[.string s] w (LineOut w s.data.toList) := by
  have hline : ofLine s.data.toList = none := by
    rw [of_line hp, hk, act_restart]
    exact restart_bad1 hz1
  obtain ⟨t0, t1, t2, t3, t4⟩ := ts_restart hk
  have hS := split_st hp hs hrl hW
  clear hk
  go_enter Tryz.func25, Tryz.ntmps25
  go_wp2_with (first
    | (go_at_call 23; refine hS.mono ?_; clear hS; rintro e w2 ⟨rfl, hwd⟩)
    | (go_at_call 48; refine hwd.mono ?_; clear hwd; rintro e w5 ⟨rfl, h5⟩; (have c50 := h5.act.at 0 rfl); (have f50 := h5.act.2.2 0); (have h6 := h5.set 0 (.int .i64 5) (by simp)); (have hE6 := hW.env h6.bel _ h6.lb))
    | (go_at_call 51; refine (int_to_bad _ _ _ _ _ h6.rd hrl hrx hE6 (.inr (.inr ⟨_, _, rfl, hz1⟩))).mono ?_; rintro e w7 ⟨n, ws1, rfl, hgw7, hRw7, hl1, hx1⟩; (have h7 := h6.grown hgw7 hRw7); (have cw7 := h7.act.at 5 rfl); (have fw7 := h7.act.2.2 5); (have h8 := h7.set 5 (.int .i64 n) (by simp)); (have Eh8 := hW.env h8.bel _ h8.lb); clear hRw7 hgw7 h6)
    | (go_at_call 51; refine (int_to_bad _ _ _ _ _ h8.rd (Nat.le_trans hl1 hrl) hx1 Eh8 (.inl rfl)).mono ?_; rintro e w9 ⟨q, ws2, rfl, hgw9, hRw9, hl2, hx2⟩; (have h9 := h8.grown hgw9 hRw9); (have cw9 := h9.act.at 6 rfl); (have fw9 := h9.act.2.2 6); (have h10 := h9.set 6 (.int .i64 q) (by simp)); (have Eh10 := hW.env h10.bel _ h10.lb); clear hRw9 hgw9 h8)
)
  go_loopw [] (fun wr => St w wr w.heap.size (w.heap.size + 1) w2.heap.size (w2.heap.size + 1) [.int .i64 5, .string ⟨#[]⟩, .slice none 0 0, .int .u64 0, .int .i64 0, .int .i64 n, .int .i64 q, .slice none 0 0] ws2 true) (fun wr => leftOf (wr.cell? ⟨w2.heap.size, 0, none⟩))
  case atStart => exact h10
  case round =>
    have hst := hrel
    clear hrel h10 Eh10
    obtain ⟨o9, r0, r1, _⟩ := hst.all
    cases ws2 with
    | nil =>
      go_wp2_with fail
      skip
      obtain ⟨o9, r0, r1, d0, d1, d2, d3, d4, d5, d6, d7, e0, e1, e2, e3, e4, e5, e6, e7, fz, n0, n1, n2, n3⟩ := hst.all
      go_region
      all_goals go_wp2
      all_goals
        obtain ⟨b16, e0, e1, e2, e3, e4, e5, e6, e7⟩ := fin8 hst.res rfl hst.bel hst.lR (.int .i64 5) (.string ⟨#[]⟩) (.slice none 0 0) (.int .u64 0) (.int .i64 0) (.int .i64 n) (.int .i64 q) (.slice none 0 0) rfl
        try simp only [Exit.inBlock, Exit.then]
        refine bodyPost_ret (by simp [results, Tryz.results25, go_sem, e0, e1, e2, e3, e4, e5, e6, e7]; try rfl) rfl ?_
        unfold LineOut
        rw [hline]
        exact ⟨_, _, _, _, _, _, _, _, _, _, _, _, rfl, b16.drew, fun A hA => by cases hA⟩
    | cons y9 t9 =>
      have hl1 : ¬ (t9.length : Int) + 1 = 0 := by omega
      have hl2 : (0 : Int) < (t9.length : Int) + 1 := by omega
      go_wp2_with fail
      skip
      obtain ⟨o9, r0, r1, d0, d1, d2, d3, d4, d5, d6, d7, e0, e1, e2, e3, e4, e5, e6, e7, fz, n0, n1, n2, n3⟩ := hst.all
      go_region
      all_goals go_wp2
      all_goals
        obtain ⟨b16, e0, e1, e2, e3, e4, e5, e6, e7⟩ := fin8 hst.res rfl hst.bel hst.lR (.int .i64 5) (.string ⟨#[]⟩) (.slice none 0 0) (.int .u64 0) (.int .i64 0) (.int .i64 n) (.int .i64 q) (.slice none 0 0) rfl
        try simp only [Exit.inBlock, Exit.then]
        refine bodyPost_ret (by simp [results, Tryz.results25, go_sem, e0, e1, e2, e3, e4, e5, e6, e7]; try rfl) rfl ?_
        unfold LineOut
        rw [hline]
        exact ⟨_, _, _, _, _, _, _, _, _, _, _, _, rfl, b16.drew, fun A hA => by cases hA⟩
theorem line_restart_one (s : ByteArray) (k : ByteArray) (x : ByteArray) (n : Int) (hz1 : zOf x.data.toList = some n) (hp : piecesB 32 s = k :: [x]) (hk : k.data.toList = [114, 101, 115, 116, 97, 114, 116]) (hs : s.size ≤ 2000000) (hrl : ([x] : List ByteArray).length ≤ 100000000) (hrx : ∀ q9 ∈ ([x] : List ByteArray), q9.size ≤ 2000000) (w : World) (hW : Well w) :
    Calls Tryz.prog 25 #[.string s] w (LineOut w s.data.toList) := by
  have hline : ofLine s.data.toList = none := by
    rw [of_line hp, hk, act_restart]
    exact restart_one _
  obtain ⟨t0, t1, t2, t3, t4⟩ := ts_restart hk
  have hS := split_st hp hs hrl hW
  clear hk
  go_enter Tryz.func25, Tryz.ntmps25
  go_wp2_with (first
    | (go_at_call 23; refine hS.mono ?_; clear hS; rintro e w2 ⟨rfl, hwd⟩)
    | (go_at_call 48; refine hwd.mono ?_; clear hwd; rintro e w5 ⟨rfl, h5⟩; (have c50 := h5.act.at 0 rfl); (have f50 := h5.act.2.2 0); (have h6 := h5.set 0 (.int .i64 5) (by simp)); (have hE6 := hW.env h6.bel _ h6.lb))
    | (go_at_call 51; refine (int_some _ _ x _ _ _ h6.rd (by simp) (hrx x (by simp)) hE6 n hz1).mono ?_; rintro e w7 ⟨rfl, hgw7, hRw7⟩; (have h7 := h6.grown hgw7 hRw7); (have cw7 := h7.act.at 5 rfl); (have fw7 := h7.act.2.2 5); (have h8 := h7.set 5 (.int .i64 n) (by simp)); (have Eh8 := hW.env h8.bel _ h8.lb); clear hRw7 hgw7 h6)
    | (go_at_call 51; refine (int_to_bad _ _ _ _ _ h8.rd (by simp) (fun _ h => by cases h) Eh8 (.inr (.inl rfl))).mono ?_; rintro e w9 ⟨q, ws2, rfl, hgw9, hRw9, hl2, hx2⟩; (have h9 := h8.grown hgw9 hRw9); (have cw9 := h9.act.at 6 rfl); (have fw9 := h9.act.2.2 6); (have h10 := h9.set 6 (.int .i64 q) (by simp)); (have Eh10 := hW.env h10.bel _ h10.lb); clear hRw9 hgw9 h8)
)
  go_loopw [] (fun wr => St w wr w.heap.size (w.heap.size + 1) w2.heap.size (w2.heap.size + 1) [.int .i64 5, .string ⟨#[]⟩, .slice none 0 0, .int .u64 0, .int .i64 0, .int .i64 n, .int .i64 q, .slice none 0 0] ws2 true) (fun wr => leftOf (wr.cell? ⟨w2.heap.size, 0, none⟩))
  case atStart => exact h10
  case round =>
    have hst := hrel
    clear hrel h10 Eh10
    obtain ⟨o9, r0, r1, _⟩ := hst.all
    cases ws2 with
    | nil =>
      go_wp2_with fail
      skip
      obtain ⟨o9, r0, r1, d0, d1, d2, d3, d4, d5, d6, d7, e0, e1, e2, e3, e4, e5, e6, e7, fz, n0, n1, n2, n3⟩ := hst.all
      go_region
      all_goals go_wp2
      all_goals
        obtain ⟨b16, e0, e1, e2, e3, e4, e5, e6, e7⟩ := fin8 hst.res rfl hst.bel hst.lR (.int .i64 5) (.string ⟨#[]⟩) (.slice none 0 0) (.int .u64 0) (.int .i64 0) (.int .i64 n) (.int .i64 q) (.slice none 0 0) rfl
        try simp only [Exit.inBlock, Exit.then]
        refine bodyPost_ret (by simp [results, Tryz.results25, go_sem, e0, e1, e2, e3, e4, e5, e6, e7]; try rfl) rfl ?_
        unfold LineOut
        rw [hline]
        exact ⟨_, _, _, _, _, _, _, _, _, _, _, _, rfl, b16.drew, fun A hA => by cases hA⟩
    | cons y9 t9 =>
      have hl1 : ¬ (t9.length : Int) + 1 = 0 := by omega
      have hl2 : (0 : Int) < (t9.length : Int) + 1 := by omega
      go_wp2_with fail
      skip
      obtain ⟨o9, r0, r1, d0, d1, d2, d3, d4, d5, d6, d7, e0, e1, e2, e3, e4, e5, e6, e7, fz, n0, n1, n2, n3⟩ := hst.all
      go_region
      all_goals go_wp2
      all_goals
        obtain ⟨b16, e0, e1, e2, e3, e4, e5, e6, e7⟩ := fin8 hst.res rfl hst.bel hst.lR (.int .i64 5) (.string ⟨#[]⟩) (.slice none 0 0) (.int .u64 0) (.int .i64 0) (.int .i64 n) (.int .i64 q) (.slice none 0 0) rfl
        try simp only [Exit.inBlock, Exit.then]
        refine bodyPost_ret (by simp [results, Tryz.results25, go_sem, e0, e1, e2, e3, e4, e5, e6, e7]; try rfl) rfl ?_
        unfold LineOut
        rw [hline]
        exact ⟨_, _, _, _, _, _, _, _, _, _, _, _, rfl, b16.drew, fun A hA => by cases hA⟩
theorem line_restart_bad2 (s : ByteArray) (k : ByteArray) (x y : ByteArray) (t : List ByteArray) (n : Int) (hz1 : zOf x.data.toList = some n) (hz2 : zOf y.data.toList = none) (hp : piecesB 32 s = k :: (x :: y :: t)) (hk : k.data.toList = [114, 101, 115, 116, 97, 114, 116]) (hs : s.size ≤ 2000000) (hrl : ((x :: y :: t) : List ByteArray).length ≤ 100000000) (hrx : ∀ q9 ∈ ((x :: y :: t) : List ByteArray), q9.size ≤ 2000000) (w : World) (hW : Well w) :
    Calls Tryz.prog 25 #[.string s] w (LineOut w s.data.toList) := by
  have hline : ofLine s.data.toList = none := by
    rw [of_line hp, hk, act_restart]
    exact restart_bad2 hz2
  obtain ⟨t0, t1, t2, t3, t4⟩ := ts_restart hk
  have hS := split_st hp hs hrl hW
  clear hk
  go_enter Tryz.func25, Tryz.ntmps25
  go_wp2_with (first
    | (go_at_call 23; refine hS.mono ?_; clear hS; rintro e w2 ⟨rfl, hwd⟩)
    | (go_at_call 48; refine hwd.mono ?_; clear hwd; rintro e w5 ⟨rfl, h5⟩; (have c50 := h5.act.at 0 rfl); (have f50 := h5.act.2.2 0); (have h6 := h5.set 0 (.int .i64 5) (by simp)); (have hE6 := hW.env h6.bel _ h6.lb))
    | (go_at_call 51; refine (int_some _ _ x _ _ _ h6.rd (by simp only [List.length_cons] at hrl ⊢; omega) (hrx x (by simp)) hE6 n hz1).mono ?_; rintro e w7 ⟨rfl, hgw7, hRw7⟩; (have h7 := h6.grown hgw7 hRw7); (have cw7 := h7.act.at 5 rfl); (have fw7 := h7.act.2.2 5); (have h8 := h7.set 5 (.int .i64 n) (by simp)); (have Eh8 := hW.env h8.bel _ h8.lb); clear hRw7 hgw7 h6)
    | (go_at_call 51; refine (int_to_bad _ _ _ _ _ h8.rd (by simp only [List.length_cons] at hrl ⊢; omega) (fun z hz => hrx z (by simp at hz ⊢; exact .inr hz)) Eh8 (.inr (.inr ⟨_, _, rfl, hz2⟩))).mono ?_; rintro e w9 ⟨q, ws2, rfl, hgw9, hRw9, hl2, hx2⟩; (have h9 := h8.grown hgw9 hRw9); (have cw9 := h9.act.at 6 rfl); (have fw9 := h9.act.2.2 6); (have h10 := h9.set 6 (.int .i64 q) (by simp)); (have Eh10 := hW.env h10.bel _ h10.lb); clear hRw9 hgw9 h8)
)
  go_loopw [] (fun wr => St w wr w.heap.size (w.heap.size + 1) w2.heap.size (w2.heap.size + 1) [.int .i64 5, .string ⟨#[]⟩, .slice none 0 0, .int .u64 0, .int .i64 0, .int .i64 n, .int .i64 q, .slice none 0 0] ws2 true) (fun wr => leftOf (wr.cell? ⟨w2.heap.size, 0, none⟩))
  case atStart => exact h10
  case round =>
    have hst := hrel
    clear hrel h10 Eh10
    obtain ⟨o9, r0, r1, _⟩ := hst.all
    cases ws2 with
    | nil =>
      go_wp2_with fail
      skip
      obtain ⟨o9, r0, r1, d0, d1, d2, d3, d4, d5, d6, d7, e0, e1, e2, e3, e4, e5, e6, e7, fz, n0, n1, n2, n3⟩ := hst.all
      go_region
      all_goals go_wp2
      all_goals
        obtain ⟨b16, e0, e1, e2, e3, e4, e5, e6, e7⟩ := fin8 hst.res rfl hst.bel hst.lR (.int .i64 5) (.string ⟨#[]⟩) (.slice none 0 0) (.int .u64 0) (.int .i64 0) (.int .i64 n) (.int .i64 q) (.slice none 0 0) rfl
        try simp only [Exit.inBlock, Exit.then]
        refine bodyPost_ret (by simp [results, Tryz.results25, go_sem, e0, e1, e2, e3, e4, e5, e6, e7]; try rfl) rfl ?_
        unfold LineOut
        rw [hline]
        exact ⟨_, _, _, _, _, _, _, _, _, _, _, _, rfl, b16.drew, fun A hA => by cases hA⟩
    | cons y9 t9 =>
      have hl1 : ¬ (t9.length : Int) + 1 = 0 := by omega
      have hl2 : (0 : Int) < (t9.length : Int) + 1 := by omega
      go_wp2_with fail
      skip
      obtain ⟨o9, r0, r1, d0, d1, d2, d3, d4, d5, d6, d7, e0, e1, e2, e3, e4, e5, e6, e7, fz, n0, n1, n2, n3⟩ := hst.all
      go_region
      all_goals go_wp2
      all_goals
        obtain ⟨b16, e0, e1, e2, e3, e4, e5, e6, e7⟩ := fin8 hst.res rfl hst.bel hst.lR (.int .i64 5) (.string ⟨#[]⟩) (.slice none 0 0) (.int .u64 0) (.int .i64 0) (.int .i64 n) (.int .i64 q) (.slice none 0 0) rfl
        try simp only [Exit.inBlock, Exit.then]
        refine bodyPost_ret (by simp [results, Tryz.results25, go_sem, e0, e1, e2, e3, e4, e5, e6, e7]; try rfl) rfl ?_
        unfold LineOut
        rw [hline]
        exact ⟨_, _, _, _, _, _, _, _, _, _, _, _, rfl, b16.drew, fun A hA => by cases hA⟩
end Go.Proofs.YtbfoocginkdmcaaGreatDoor

/-
  parseLine at restart, where the first two numbers are there: the loop over the others.
-/

namespace Go.Proofs.YtbfoocginkdmcaaGreatDoor
open Go Go.RowKit Go.ArgS Go.Basic Go.Scr Go.Lib
theorem size_set (w : World) (a : Addr) (v : Value) : (w.setCell a v).heap.size = w.heap.size := by simp [World.setCell]
theorem one_i64 {z : Int} : ∀ u ∈ [Value.int .i64 z], u.oneCell' = true := by
  intro u hu
  simp at hu
  subst hu
  rfl
def LoopZ (U : List (List UInt8)) (tl : List Int) (ws : List ByteArray) (bad : Bool) : Prop :=
  if bad = true then zsU U = none else zsU U = (zsU (ws.map (·.data.toList))).map (tl ++ ·)
theorem loopz_none {U : List (List UInt8)} {tl tl' : List Int} {x : ByteArray} {t : List ByteArray} (h : LoopZ U tl (x :: t) false) (hz : zOf x.data.toList = none) : LoopZ U tl' t true := by
  unfold LoopZ at *
  rw [if_pos rfl]
  rw [if_neg (by decide)] at h
  rw [h, List.map_cons, zs_none hz]
  rfl
theorem loopz_some {U : List (List UInt8)} {tl : List Int} {x : ByteArray} {t : List ByteArray} {z : Int} (h : LoopZ U tl (x :: t) false) (hz : zOf x.data.toList = some z) : LoopZ U (tl ++ [z]) t false := by
  unfold LoopZ at *
  rw [if_neg (by decide)] at h ⊢
  rw [h, List.map_cons, zs_some hz, Option.map_map]
  congr 1
  funext l
  simp
theorem loopz_end {U : List (List UInt8)} {tl : List Int} (h : LoopZ U tl [] false) : zsU U = some tl := by
  unfold LoopZ at h
  rw [if_neg (by decide)] at h
  rw [h]
  simp [zsU]
theorem loopz_bad {U : List (List UInt8)} {tl : List Int} {ws : List ByteArray} (h : LoopZ U tl ws true) : zsU U = none := by
  unfold LoopZ at h
  rw [if_pos rfl] at h
  exact h
theorem line_restart (s : ByteArray) (k : ByteArray) (x y : ByteArray) (u : List ByteArray) (n q : Int) (hz1 : zOf x.data.toList = some n) (hz2 : zOf y.data.toList = some q) (hp : piecesB 32 s = k :: x :: y :: u) (hk : k.data.toList = [114, 101, 115, 116, 97, 114, 116]) (hs : s.size ≤ 2000000) (hrl : (x :: y :: u).length ≤ 2000003) (hrx : ∀ q9 ∈ (x :: y :: u), q9.size ≤ 2000000) (w : World) (hW : Well w) :
    Calls Tryz.prog 25 #[.string s] w (LineOut w s.data.toList) := by
  obtain ⟨i3, hi3, hz3, hs3, hb3⟩ := info_parts inf3
  have hlh : Hid (ofLine s.data.toList = (zsU (u.map (·.data.toList))).map (act5 n q)) := by
    show _ = _
    rw [of_line hp, hk, act_restart]
    exact restart_two hz1 hz2
  obtain ⟨t0, t1, t2, t3, t4⟩ := ts_restart hk
  have hrl0 := hrl
  replace hrl : (x :: y :: u).length ≤ 100000000 := by omega
  have hS := split_st hp hs hrl hW
  have hul : u.length ≤ 2000001 := by simp only [List.length_cons] at hrl0; omega
  clear hk hrl0
  go_enter Tryz.func25, Tryz.ntmps25
  go_wp2_with (first
    | (go_at_call 23; refine hS.mono ?_; clear hS; rintro e w2 ⟨rfl, hwd⟩)
    | (go_at_call 48; refine hwd.mono ?_; clear hwd; rintro e w5 ⟨rfl, h5⟩; (have c50 := h5.act.at 0 rfl); (have f50 := h5.act.2.2 0); (have h6 := h5.set 0 (.int .i64 5) (by simp)); (have hE6 := hW.env h6.bel _ h6.lb))
    | (go_at_call 51; refine (int_some _ _ x _ _ _ h6.rd (by simp only [List.length_cons] at hrl ⊢; omega) (hrx x (by simp)) hE6 n hz1).mono ?_; rintro e w7 ⟨rfl, hgw7, hRw7⟩; (have h7 := h6.grown hgw7 hRw7); (have cw7 := h7.act.at 5 rfl); (have fw7 := h7.act.2.2 5); (have h8 := h7.set 5 (.int .i64 n) (by simp)); (have Eh8 := hW.env h8.bel _ h8.lb); clear hRw7 hgw7 h6)
    | (go_at_call 51; refine (int_some _ _ y _ _ _ h8.rd (by simp only [List.length_cons] at hrl; omega) (hrx y (by simp)) Eh8 q hz2).mono ?_; rintro e w9 ⟨rfl, hgw9, hRw9⟩; (have h9 := h8.grown hgw9 hRw9); (have cw9 := h9.act.at 6 rfl); (have fw9 := h9.act.2.2 6); (have h10 := h9.set 6 (.int .i64 q) (by simp)); (have Eh10 := hW.env h10.bel _ h10.lb); clear hRw9 hgw9 h8)
)
  generalize (w9.setCell ⟨w2.heap.size + 1, 6, none⟩ (.int .i64 q)) = W0 at *
  have lR0 := h10.res.1
  have lb0 := h10.rd.lt.1
  have lg0 := h10.rd.lt.2.1
  have la0 := h10.act.1
  have hw0 := h10.bel.size
  have hz0 : Hid (LoopZ (u.map (·.data.toList)) [] u false) := by
    show LoopZ _ _ _ _
    unfold LoopZ
    rw [if_neg (by decide)]
    simp
  have hux : ∀ z ∈ u, z.size ≤ 2000000 := fun z hz => hrx z (by simp [hz])
  clear hrl hrx hp hz1 hz2
  go_loopw [] (fun wr => ∃ (vt : Value) (tl : List Int) (ws : List ByteArray) (bad : Bool), St w wr w.heap.size (w.heap.size + 1) w2.heap.size (w2.heap.size + 1) [.int .i64 5, .string ⟨#[]⟩, .slice none 0 0, .int .u64 0, .int .i64 0, .int .i64 n, .int .i64 q, vt] ws bad ∧ wr.ownsRow W0.heap.size 3 1 vt tl.length (tl.map (Value.int .i64)) ∧ ws.length ≤ 2000001 ∧ (∀ z ∈ ws, z.size ≤ 2000000) ∧ tl.length + ws.length ≤ 2000001 ∧ W0.heap.size ≤ wr.heap.size ∧ Hid (LoopZ (u.map (·.data.toList)) tl ws bad)) (fun wr => leftOf (wr.cell? ⟨w2.heap.size, 0, none⟩))
  case atStart => exact ⟨_, [], u, false, h10, World.ownsRow_nil _ _ _ _, hul, hux, by simp; omega, Nat.le_refl _, hz0⟩
  case round =>
    clear h10 hz0 hux hul
    obtain ⟨vt, tl, ws, bad, hst, hown, hwl, hws, htl, szw, hzz⟩ := hrel
    obtain ⟨ta, tc, rfl⟩ := own_slc hown
    obtain ⟨o9, r0, r1, _⟩ := hst.all
    cases bad with
    | true =>
      have hz9 := loopz_bad hzz
      clear hzz
      cases ws with
      | nil =>
        go_wp2_with fail
        obtain ⟨o9, r0, r1, d0, d1, d2, d3, d4, d5, d6, d7, e0, e1, e2, e3, e4, e5, e6, e7, fz, n0, n1, n2, n3⟩ := hst.all
        go_region
        all_goals go_wp2
        all_goals
          obtain ⟨b16, e0, e1, e2, e3, e4, e5, e6, e7⟩ := fin8 hst.res rfl hst.bel hst.lR (.int .i64 5) (.string ⟨#[]⟩) (.slice none 0 0) (.int .u64 0) (.int .i64 0) (.int .i64 n) (.int .i64 q) (.slice ta tl.length tc) rfl
          try simp only [Exit.inBlock, Exit.then]
          refine bodyPost_ret (by simp [results, Tryz.results25, go_sem, e0, e1, e2, e3, e4, e5, e6, e7]; try rfl) rfl ?_
          have e1 : ofLine s.data.toList = none := by
            rw [show ofLine s.data.toList = _ from hlh, show zsU _ = none from hz9]
            rfl
          unfold LineOut
          rw [e1]
          exact ⟨_, _, _, _, _, _, _, _, _, _, _, _, rfl, b16.drew, fun A hA => by cases hA⟩
      | cons y9 t9 =>
        have hl1 : ¬ (t9.length : Int) + 1 = 0 := by omega
        have hl2 : (0 : Int) < (t9.length : Int) + 1 := by omega
        go_wp2_with fail
        obtain ⟨o9, r0, r1, d0, d1, d2, d3, d4, d5, d6, d7, e0, e1, e2, e3, e4, e5, e6, e7, fz, n0, n1, n2, n3⟩ := hst.all
        go_region
        all_goals go_wp2
        all_goals
          obtain ⟨b16, e0, e1, e2, e3, e4, e5, e6, e7⟩ := fin8 hst.res rfl hst.bel hst.lR (.int .i64 5) (.string ⟨#[]⟩) (.slice none 0 0) (.int .u64 0) (.int .i64 0) (.int .i64 n) (.int .i64 q) (.slice ta tl.length tc) rfl
          try simp only [Exit.inBlock, Exit.then]
          refine bodyPost_ret (by simp [results, Tryz.results25, go_sem, e0, e1, e2, e3, e4, e5, e6, e7]; try rfl) rfl ?_
          have e1 : ofLine s.data.toList = none := by
            rw [show ofLine s.data.toList = _ from hlh, show zsU _ = none from hz9]
            rfl
          unfold LineOut
          rw [e1]
          exact ⟨_, _, _, _, _, _, _, _, _, _, _, _, rfl, b16.drew, fun A hA => by cases hA⟩
    | false =>
      cases ws with
      | nil =>
        have hz9 := loopz_end hzz
        have hos : OwnS wr W0.heap.size .i64 (.slice ta tl.length tc) tl := hown
        clear hzz
        go_wp2_with fail
        obtain ⟨o9, r0, r1, d0, d1, d2, d3, d4, d5, d6, d7, e0, e1, e2, e3, e4, e5, e6, e7, fz, n0, n1, n2, n3⟩ := hst.all
        go_region
        all_goals go_wp2
        all_goals
          obtain ⟨b16, e0, e1, e2, e3, e4, e5, e6, e7⟩ := fin8 hst.res rfl hst.bel hst.lR (.int .i64 5) (.string ⟨#[]⟩) (.slice none 0 0) (.int .u64 0) (.int .i64 0) (.int .i64 n) (.int .i64 q) (.slice ta tl.length tc) rfl
          try simp only [Exit.inBlock, Exit.then]
          refine bodyPost_ret (by simp [results, Tryz.results25, go_sem, e0, e1, e2, e3, e4, e5, e6, e7]; try rfl) rfl ?_
          have e1 : ofLine s.data.toList = some (act5 n q tl) := by
            rw [show ofLine s.data.toList = _ from hlh, hz9]
            rfl
          unfold LineOut
          rw [e1]
          refine ⟨_, _, _, _, _, _, _, _, _, _, _, _, rfl, b16.drew, fun A hA => ?_⟩
          cases hA
          exact ⟨rfl, rfl, rfl, rfl, rfl, rfl, rfl, rfl, OwnS.nil _ _ _, ((own_drew (own_set8 hos lR0 _ _ _ _ _ _ _ _)).mono hw0), .inl rfl⟩
      | cons x9 t9 =>
        have hl1 : ¬ (t9.length : Int) + 1 = 0 := by omega
        have hl2 : (0 : Int) < (t9.length : Int) + 1 := by omega
        have hxs := hws x9 (by simp)
        have hD := hst.drew
        have cD := hD.act.at 7 rfl
        have ED := hW.env hD.bel _ hD.lb
        have hownD : wr.drew.ownsRow W0.heap.size 3 1 (.slice ta tl.length tc) tl.length (tl.map (Value.int .i64)) := hown
        have szW : W0.heap.size ≤ wr.heap.size := szw
        have szD : W0.heap.size ≤ wr.drew.heap.size := szW
        simp only [List.length_cons] at hwl htl
        go_wp2_with fail
        cases hzx : zOf x9.data.toList with
        | none =>
          have hcall := int_none _ _ x9 t9 false _ hD.rd (by omega) hxs ED hzx
          have hz1 : ∀ tl', Hid (LoopZ (u.map (·.data.toList)) tl' t9 true) := fun tl' => loopz_none hzz hzx
          clear hzz hzx
          go_region_law (first
            | (refine step_append_own rfl (.tmp 68) (.tmp 71) 32 rfl W0.heap.size 3 i3 (.int .i64 0) 1 8 Tryz.underlying32 hi3 hz3 hs3 hb3 rfl (by decide) (.slice ta tl.length tc) tl.length (tl.map (Value.int .i64)) rfl (own3.alloc _) ⟨_, 0, none⟩ 1 1 [.int .i64 z9] rfl rfl (one_cell _ _ _) one_i64 (by unfold maxLen; omega) (by omega) (by have := h12.bel.size; have := sz3; simp; omega) ?_; intro v' w13 hown13 hg13; obtain ⟨va, vc, rfl⟩ := own_slc hown13; have h13 := h12.append hg13 (fun k hk => (own3.lt k hk).1) lR0 lb0 lg0 la0 hw0 sz3; have c13 := h13.act.at 7 rfl; have f13 := h13.act.2.2 7)
            | (go_simp; go_at_call 51; refine hcall.mono ?_; rintro e w12 ⟨z9, rfl, hg12, hR12⟩; have h12 := hD.grown hg12 hR12; have c12 := h12.act.at 7 rfl; have c12a := ((h12.act.alloc (.cells #[.int .i64 z9] 3))).at 7 rfl; have own3 := own_keptb hownD hg12 lb0; have sz3 : W0.heap.size ≤ w12.heap.size := Nat.le_trans szD hg12.size))
          all_goals go_wp2
          all_goals
            have h14 := h13.set 7 (.slice va (tl.length + 1) vc) (by simp)
            have hown14 : (w13.setCell ⟨w2.heap.size + 1, 7, none⟩ (.slice va (tl.length + 1) vc)).ownsRow W0.heap.size 3 1 (.slice va (tl.length + 1) vc) (tl.length + 1) ((tl ++ [z9]).map (Value.int .i64)) := by
              rw [List.map_append]
              exact own_keptb hown13 (grown_set w13 (w2.heap.size + 1) 7 (.slice va (tl.length + 1) vc)) la0
            refine ⟨⟨.slice va (tl.length + 1) vc, tl ++ [z9], t9, true, h14, (by rw [List.length_append]; exact hown14), (by omega), (fun z hz => hws z (by simp [hz])), (by rw [List.length_append]; simp only [List.length_cons, List.length_nil]; omega), (by have q1 := hg13.size; simp only [World.size_alloc] at q1; rw [size_set]; omega), hz1 _⟩, ?_⟩
            rw [left_of h14, left_of hst]
            simp
        | some z9 =>
          have hcall := int_some _ _ x9 t9 false _ hD.rd (by omega) hxs ED z9 hzx
          have hz1 : Hid (LoopZ (u.map (·.data.toList)) (tl ++ [z9]) t9 false) := loopz_some hzz hzx
          clear hzz hzx
          go_region_law (first
            | (refine step_append_own rfl (.tmp 68) (.tmp 71) 32 rfl W0.heap.size 3 i3 (.int .i64 0) 1 8 Tryz.underlying32 hi3 hz3 hs3 hb3 rfl (by decide) (.slice ta tl.length tc) tl.length (tl.map (Value.int .i64)) rfl (own3.alloc _) ⟨_, 0, none⟩ 1 1 [.int .i64 z9] rfl rfl (one_cell _ _ _) one_i64 (by unfold maxLen; omega) (by omega) (by have := h12.bel.size; have := sz3; simp; omega) ?_; intro v' w13 hown13 hg13; obtain ⟨va, vc, rfl⟩ := own_slc hown13; have h13 := h12.append hg13 (fun k hk => (own3.lt k hk).1) lR0 lb0 lg0 la0 hw0 sz3; have c13 := h13.act.at 7 rfl; have f13 := h13.act.2.2 7)
            | (go_simp; go_at_call 51; refine hcall.mono ?_; rintro e w12 ⟨rfl, hg12, hR12⟩; have h12 := hD.grown hg12 hR12; have c12 := h12.act.at 7 rfl; have c12a := ((h12.act.alloc (.cells #[.int .i64 z9] 3))).at 7 rfl; have own3 := own_keptb hownD hg12 lb0; have sz3 : W0.heap.size ≤ w12.heap.size := Nat.le_trans szD hg12.size))
          all_goals go_wp2
          all_goals
            have h14 := h13.set 7 (.slice va (tl.length + 1) vc) (by simp)
            have hown14 : (w13.setCell ⟨w2.heap.size + 1, 7, none⟩ (.slice va (tl.length + 1) vc)).ownsRow W0.heap.size 3 1 (.slice va (tl.length + 1) vc) (tl.length + 1) ((tl ++ [z9]).map (Value.int .i64)) := by
              rw [List.map_append]
              exact own_keptb hown13 (grown_set w13 (w2.heap.size + 1) 7 (.slice va (tl.length + 1) vc)) la0
            refine ⟨⟨.slice va (tl.length + 1) vc, tl ++ [z9], t9, false, h14, (by rw [List.length_append]; exact hown14), (by omega), (fun z hz => hws z (by simp [hz])), (by rw [List.length_append]; simp only [List.length_cons, List.length_nil]; omega), (by have q1 := hg13.size; simp only [World.size_alloc] at q1; rw [size_set]; omega), hz1⟩, ?_⟩
            rw [left_of h14, left_of hst]
            simp
end Go.Proofs.YtbfoocginkdmcaaGreatDoor
