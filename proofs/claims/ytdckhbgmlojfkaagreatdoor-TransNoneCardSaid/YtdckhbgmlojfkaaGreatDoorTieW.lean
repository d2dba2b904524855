/-
  The tie: all listed variables.
-/
import Derived.Test.YtdckhbgmlojfkaaGreatDoorRows
import Derived.Test.YtdckhbgmlojfkaaGreatDoorEvF
import Derived.SevenTiedAt
namespace Go.Proofs.YtdckhbgmlojfkaaGreatDoor
open Go Go.Ev
abbrev laidAll : List (String × DataW Unit) := ([("internal/strconv.uint64pow10", Rows.laid_internal_strconv_uint64pow10), ("math/bits.deBruijn32tab", Rows.laid_math_bits_deBruijn32tab), ("math/bits.deBruijn64tab", Rows.laid_math_bits_deBruijn64tab), ("strconv.ErrSyntax", Rows.laid_strconv_ErrSyntax), ("strconv.ErrRange", Rows.laid_strconv_ErrRange), ("unicode/utf8.first", Rows.laid_unicode_utf8_first), ("unicode/utf8.acceptRanges", Rows.laid_unicode_utf8_acceptRanges), ("internal/strconv.optimize", Rows.laid_internal_strconv_optimize), ("internal/strconv.pow10Tab", Rows.laid_internal_strconv_pow10Tab), ("internal/strconv.powtab", Rows.laid_internal_strconv_powtab), ("internal/strconv.leftcheats", Rows.laid_internal_strconv_leftcheats)] : List (String × DataW Unit))
end Go.Proofs.YtdckhbgmlojfkaaGreatDoor
