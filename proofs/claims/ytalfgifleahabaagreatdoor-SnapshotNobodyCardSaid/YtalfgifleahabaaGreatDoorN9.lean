/-
  The variables' door, run once: it leaves in the variables (but for the pinned one) what the row lists. (One fact, in a text of its own: its run takes most of a process's memory.)
-/
import Derived.Test.YtalfgifleahabaaGreatDoorRows
import Derived.LaidOnce
import Derived.KernelRfl
namespace Go.Proofs.YtalfgifleahabaaGreatDoor.sn
open Go
set_option maxRecDepth 100000

/-- What the row lists, but for the pinned table. -/
def laidT : List (String × DataW Unit) := [("internal/strconv.uint64pow10", Rows.laid_internal_strconv_uint64pow10), ("math/bits.deBruijn32tab", Rows.laid_math_bits_deBruijn32tab), ("math/bits.deBruijn64tab", Rows.laid_math_bits_deBruijn64tab), ("seedbed/seedbedref02.levels", Rows.laid_seedbed_seedbedref02_levels), ("seedbed/seedbedref02.ops", Rows.laid_seedbed_seedbedref02_ops), ("strings.asciiSpace", Rows.laid_strings_asciiSpace), ("unicode.White_Space", Rows.laid_unicode_White_Space), ("unicode/utf8.acceptRanges", Rows.laid_unicode_utf8_acceptRanges)]

theorem door (os : Os) (tape : Tape) : doorLeaves Tryz.prog 400 8 300 laidT os tape = some (laidT.filter fun x => x.2.handleName?.isNone, (funcsListed laidT).map (·.2.funcsOut)) := by kernel_rfl

end Go.Proofs.YtalfgifleahabaaGreatDoor.sn
