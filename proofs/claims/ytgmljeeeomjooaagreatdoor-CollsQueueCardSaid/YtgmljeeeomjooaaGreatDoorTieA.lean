/-
  The tie: the words of the variables' door, the kinds of the listed variables.
-/
import Derived.Test.YtgmljeeeomjooaaGreatDoorRows
import Derived.Test.YtgmljeeeomjooaaGreatDoorEvF
import Derived.SevenTiedAt
namespace Go.Proofs.YtgmljeeeomjooaaGreatDoor
open Go Go.Ev
abbrev laidList : List (String × DataW Unit) := ([("internal/strconv.uint64pow10", Rows.laid_internal_strconv_uint64pow10), ("math/bits.deBruijn32tab", Rows.laid_math_bits_deBruijn32tab), ("math/bits.deBruijn64tab", Rows.laid_math_bits_deBruijn64tab), ("strconv.ErrSyntax", Rows.laid_strconv_ErrSyntax), ("strconv.ErrRange", Rows.laid_strconv_ErrRange)] : List (String × DataW Unit))
theorem tieW : Tryz.prog.worded (varsWordLater true) = true := worded_bytes (by kernel_rfl)
theorem tieW2 : Tryz.prog.worded (varsWordLater !true) = false := worded_bytes (by kernel_rfl)
theorem tieRoot : Tryz.prog.worded rootWordLater = true := worded_bytes (by kernel_rfl)
theorem tieK : laidList.map (fun x => Tryz.prog.kindOfLater x.1) = (([.data, .data, .data, .sentinel, .sentinel] : List LaidKind)).map some := by kernel_rfl
theorem tieG : Tryz.prog.funcNamed "gosem.cut.vars" = some 615 := funcNamed_bytes (by kernel_rfl)
end Go.Proofs.YtgmljeeeomjooaaGreatDoor
