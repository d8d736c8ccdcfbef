/-
  The ties of the rows: the given text's theorems, each closed fact a theorem of its own, for the memory's sake.
-/
import Derived.Test.YtbfoocginkdmcaaGreatDoorRows
import Derived.LaidByTextLater
import Derived.SevenTiedAt
import Derived.KernelRfl
import Derived.Test.YtbfoocginkdmcaaGreatDoorKTb
import Derived.Test.YtbfoocginkdmcaaGreatDoorKTc
import Derived.Test.YtbfoocginkdmcaaGreatDoorKTa
import Derived.Test.YtbfoocginkdmcaaGreatDoorKTe
import Derived.Test.YtbfoocginkdmcaaGreatDoorKTf

namespace Go.Proofs.YtbfoocginkdmcaaGreatDoor
open Go
set_option maxRecDepth 100000
set_option linter.unusedVariables false
theorem pin_laid_unicode_utf8_first : Tryz.pinned.checked.prog.pinnedFits "unicode/utf8.first" = true := by kernel_rfl
theorem pin_laid_unicode_CaseRanges : Tryz.pinned.checked.prog.pinnedFits "unicode.CaseRanges" = true := by kernel_rfl
theorem noOwnUnsafe : Tryz.pinned.checked.prog.headLifts.contains "ownunsafe" = false := by kernel_rfl
theorem fits4 : Tryz.pinned.checked.prog.listedFits [("internal/strconv.uint64pow10", Rows.laid_internal_strconv_uint64pow10), ("math/bits.deBruijn32tab", Rows.laid_math_bits_deBruijn32tab), ("math/bits.deBruijn64tab", Rows.laid_math_bits_deBruijn64tab), ("unicode/utf8.first", Rows.laid_unicode_utf8_first), ("unicode/utf8.acceptRanges", Rows.laid_unicode_utf8_acceptRanges), ("strconv.ErrSyntax", Rows.laid_strconv_ErrSyntax), ("strconv.ErrRange", Rows.laid_strconv_ErrRange), ("wicket/digest.first", Rows.laid_wicket_digest_first), ("wicket/digest.roots", Rows.laid_wicket_digest_roots), ("wicket/token.bounds", Rows.laid_wicket_token_bounds), ("wicket/frame.sums", Rows.laid_wicket_frame_sums), ("wicket/jtext.words", Rows.laid_wicket_jtext_words), ("unicode.asciiFold", Rows.laid_unicode_asciiFold), ("unicode.caseOrbit", Rows.laid_unicode_caseOrbit), ("unicode.CaseRanges", Rows.laid_unicode_CaseRanges), ("wicket/grant.ends", Rows.laid_wicket_grant_ends)] = true := by
  unfold Program.listedFits
  rw [noOwnUnsafe]
  kernel_rfl
theorem map_nodup {α : Type} {o : Option (α × List MemPlace)} {M : Nat} {g : List MemPlace → Bool} (h : o.map (fun x => nodupBits M x.2 0 && g x.2) = some true) : o.map (fun x => decide x.2.Nodup && g x.2) = some true := by
  cases o with
  | none => cases h
  | some x =>
    simp only [Option.map_some, Option.some.injEq, Bool.and_eq_true] at h ⊢
    exact ⟨decide_eq_true (nodupBits_sound h.1).1, h.2⟩
theorem tie_d (os : Os) (tape : Tape) : varsDone Tryz.prog 400 (varsId Tryz.prog) os tape = true := (congrArg (fun v => varsDone Tryz.prog 400 v os tape) tie_id).trans (tie_d' os tape)
theorem tie_1 (os : Os) (tape : Tape) : (DataW.laidRun Tryz.prog (varsWorld Tryz.prog 400 (varsId Tryz.prog) os tape).memory 8 (tieL.map (·.1))).map (·.1) = some tieL := by
  rw [tie_id]
  exact tie_1' os tape
theorem tie_2 (os : Os) (tape : Tape) : (DataW.laidRun Tryz.prog (varsWorld Tryz.prog 400 (varsId Tryz.prog) os tape).memory 8 (tieL.map (·.1))).map (fun x => decide x.2.Nodup && laidRowsB Tryz.prog (varsWorld Tryz.prog 400 (varsId Tryz.prog) os tape).memory x.2) = some true := by
  rw [tie_id]
  exact map_nodup (tie_2' os tape)
theorem tie : Tryz.prog.laidByTextLater [("internal/strconv.uint64pow10", Rows.laid_internal_strconv_uint64pow10), ("math/bits.deBruijn32tab", Rows.laid_math_bits_deBruijn32tab), ("math/bits.deBruijn64tab", Rows.laid_math_bits_deBruijn64tab), ("unicode/utf8.acceptRanges", Rows.laid_unicode_utf8_acceptRanges), ("strconv.ErrSyntax", Rows.laid_strconv_ErrSyntax), ("strconv.ErrRange", Rows.laid_strconv_ErrRange), ("wicket/digest.first", Rows.laid_wicket_digest_first), ("wicket/digest.roots", Rows.laid_wicket_digest_roots), ("wicket/token.bounds", Rows.laid_wicket_token_bounds), ("wicket/frame.sums", Rows.laid_wicket_frame_sums), ("wicket/jtext.words", Rows.laid_wicket_jtext_words), ("unicode.asciiFold", Rows.laid_unicode_asciiFold), ("unicode.caseOrbit", Rows.laid_unicode_caseOrbit), ("wicket/grant.ends", Rows.laid_wicket_grant_ends)] [.data, .data, .data, .data, .sentinel, .sentinel, .data, .data, .data, .data, .data, .data, .data, .data] true :=
  Program.laidByTextLater_by_run 400 8 tie_w tie_v tie_r tie_k tie_g tie_n tie_d tie_1 tie_2
theorem serverBackUpto_row_tie : Rows.serverBackUptoRow.laidByTextAt .later Tryz.pinned [.data, .data, .data, .pinned, .data, .sentinel, .sentinel, .data, .data, .data, .data, .data, .data, .data, .pinned, .data] true :=
  OpenClaim.laidByTextAt_pinned rfl rfl tie rfl rfl rfl rfl (fun y hy _e => by
    simp only [Rows.serverBackUptoRow, List.zip_cons_cons, List.zip_nil_right, List.mem_cons, List.mem_nil_iff, or_false] at hy
    rcases hy with rfl | rfl | rfl | rfl | rfl | rfl | rfl | rfl | rfl | rfl | rfl | rfl | rfl | rfl | rfl | rfl
    · cases _e
    · cases _e
    · cases _e
    · exact ⟨pin_laid_unicode_utf8_first, by kernel_rfl⟩
    · cases _e
    · cases _e
    · cases _e
    · cases _e
    · cases _e
    · cases _e
    · cases _e
    · cases _e
    · cases _e
    · cases _e
    · exact ⟨pin_laid_unicode_CaseRanges, by kernel_rfl⟩
    · cases _e) fits4
end Go.Proofs.YtbfoocginkdmcaaGreatDoor
