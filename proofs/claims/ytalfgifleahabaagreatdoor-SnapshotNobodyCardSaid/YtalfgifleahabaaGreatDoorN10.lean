/-
  The row's tie: what the row lists of its variables is what the program's text lays into them.
-/
import Derived.Test.YtalfgifleahabaaGreatDoorN9
import Derived.LaidByTextLater
import Derived.SevenTiedAt
namespace Go.Proofs.YtalfgifleahabaaGreatDoor.sn
open Go
set_option maxRecDepth 100000

theorem pinFits : Tryz.pinned.checked.prog.pinnedFits "unicode/utf8.first" = true := by kernel_rfl
theorem noUnsafe : Tryz.pinned.checked.prog.headLifts.contains "ownunsafe" = false := by kernel_rfl
theorem fitsAll : Tryz.pinned.checked.prog.listedFits [("internal/strconv.uint64pow10", Rows.laid_internal_strconv_uint64pow10), ("math/bits.deBruijn32tab", Rows.laid_math_bits_deBruijn32tab), ("math/bits.deBruijn64tab", Rows.laid_math_bits_deBruijn64tab), ("seedbed/seedbedref02.levels", Rows.laid_seedbed_seedbedref02_levels), ("seedbed/seedbedref02.ops", Rows.laid_seedbed_seedbedref02_ops), ("strings.asciiSpace", Rows.laid_strings_asciiSpace), ("unicode.White_Space", Rows.laid_unicode_White_Space), ("unicode/utf8.first", Rows.laid_unicode_utf8_first), ("unicode/utf8.acceptRanges", Rows.laid_unicode_utf8_acceptRanges)] = true := by
  unfold Program.listedFits
  rw [noUnsafe]
  kernel_rfl
theorem tied : Tryz.prog.laidByTextLater laidT [.data, .data, .data, .data, .data, .data, .listed, .data] true :=
  Program.laidByTextLater_by_one 400 8 300 (by kernel_rfl) (by kernel_rfl) (by kernel_rfl) (by kernel_rfl) (by kernel_rfl) (by kernel_rfl) door
theorem rowTied : Rows.snapshotNobodyRow.laidByTextAt .later Tryz.pinned [.data, .data, .data, .data, .data, .data, .listed, .pinned, .data] true :=
  OpenClaim.laidByTextAt_pinned rfl rfl tied rfl rfl rfl rfl (fun y hy e => by
    simp only [Rows.snapshotNobodyRow, List.zip_cons_cons, List.zip_nil_right, List.mem_cons, List.mem_nil_iff, or_false] at hy
    rcases hy with rfl | rfl | rfl | rfl | rfl | rfl | rfl | rfl | rfl
    · cases e
    · cases e
    · cases e
    · cases e
    · cases e
    · cases e
    · cases e
    · exact ⟨pinFits, by kernel_rfl⟩
    · cases e) fitsAll

end Go.Proofs.YtalfgifleahabaaGreatDoor.sn
