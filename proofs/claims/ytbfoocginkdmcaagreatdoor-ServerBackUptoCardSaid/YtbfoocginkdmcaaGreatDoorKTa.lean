/-
  The listed variables; the number of the function that lays them.
-/
import Derived.Test.YtbfoocginkdmcaaGreatDoorRows
import Derived.LaidOnce
import Derived.KernelRfl
import Derived.Test.YtbfoocginkdmcaaGreatDoorKNM

namespace Go.Proofs.YtbfoocginkdmcaaGreatDoor
open Go
set_option maxRecDepth 100000
set_option linter.unusedVariables false
abbrev tieL : List (String × DataW Unit) := [("internal/strconv.uint64pow10", Rows.laid_internal_strconv_uint64pow10), ("math/bits.deBruijn32tab", Rows.laid_math_bits_deBruijn32tab), ("math/bits.deBruijn64tab", Rows.laid_math_bits_deBruijn64tab), ("unicode/utf8.acceptRanges", Rows.laid_unicode_utf8_acceptRanges), ("strconv.ErrSyntax", Rows.laid_strconv_ErrSyntax), ("strconv.ErrRange", Rows.laid_strconv_ErrRange), ("wicket/digest.first", Rows.laid_wicket_digest_first), ("wicket/digest.roots", Rows.laid_wicket_digest_roots), ("wicket/token.bounds", Rows.laid_wicket_token_bounds), ("wicket/frame.sums", Rows.laid_wicket_frame_sums), ("wicket/jtext.words", Rows.laid_wicket_jtext_words), ("unicode.asciiFold", Rows.laid_unicode_asciiFold), ("unicode.caseOrbit", Rows.laid_unicode_caseOrbit), ("wicket/grant.ends", Rows.laid_wicket_grant_ends)]
theorem tie_id : varsId Tryz.prog = 652 := by
  unfold varsId
  rw [vars_named]
  rfl
end Go.Proofs.YtbfoocginkdmcaaGreatDoor

/-
  There is a function that lays the variables.
-/

namespace Go.Proofs.YtbfoocginkdmcaaGreatDoor
open Go
set_option maxRecDepth 100000
set_option linter.unusedVariables false
theorem tie_g : (Tryz.prog.funcNamed "gosem.cut.vars").isSome = true := by
  rw [vars_named]
  rfl
end Go.Proofs.YtbfoocginkdmcaaGreatDoor
