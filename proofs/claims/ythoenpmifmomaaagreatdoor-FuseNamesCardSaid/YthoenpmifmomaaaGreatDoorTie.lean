/-
  DERIVED. GIVEN WITH THE SEED: THE PROGRAM's TIES (one call each: nine closed facts by the kernel) AND EACH ROW's TIE, after the 31st guide's Derived/Test/Toyas{Tie, Card}.lean. No idea stands in it: it is a product of the set-up. Laid BY PROGRAM, IN A SANDBOX (cutbox-door.mjs). By AI agents, Wed Nov 11 2026. No macro, syntax, notation, axiom, sorry.
-/
import Derived.Test.YthoenpmifmomaaaGreatDoorRows
import Derived.LaidByTextLater
import Derived.SevenTiedAt
import Derived.LaidSub
import Derived.LaidOnce
namespace Go.Proofs.YthoenpmifmomaaaGreatDoor
open Go
set_option maxRecDepth 100000
theorem seatTie1 : Tryz.prog.laidByTextLater [("math/bits.deBruijn32tab", Rows.laid_math_bits_deBruijn32tab), ("math/bits.deBruijn64tab", Rows.laid_math_bits_deBruijn64tab), ("internal/strconv.uint64pow10", Rows.laid_internal_strconv_uint64pow10), ("sheafworks/word.deeds", Rows.laid_sheafworks_word_deeds), ("sheafworks/word.laws", Rows.laid_sheafworks_word_laws), ("sheafworks/word.neutrals", Rows.laid_sheafworks_word_neutrals), ("sheafworks/shape.words", Rows.laid_sheafworks_shape_words)] [.data, .data, .data, .funcs, .data, .data, .data] true :=
  Program.laidByTextLater_by_one 52 8 65 (by kernel_rfl) (by kernel_rfl) (by kernel_rfl) (by kernel_rfl) (by kernel_rfl) (by kernel_rfl) (fun _ _ => by kernel_rfl)
theorem noOwnUnsafe : Tryz.pinned.checked.prog.headLifts.contains "ownunsafe" = false := by kernel_rfl
theorem tie : Tryz.prog.laidByTextLater [("sheafworks/word.deeds", Rows.laid_sheafworks_word_deeds), ("sheafworks/word.laws", Rows.laid_sheafworks_word_laws), ("sheafworks/word.neutrals", Rows.laid_sheafworks_word_neutrals)] [.funcs, .data, .data] true :=
  Program.laidByTextLater.sub seatTie1 ["sheafworks/word.deeds", "sheafworks/word.laws", "sheafworks/word.neutrals"] (by kernel_rfl) (by kernel_rfl)
theorem fuseNames_row_tie : Rows.fuseNamesRow.laidByTextAt .later Tryz.pinned [.funcs, .data, .data] true :=
  OpenClaim.laidByTextAt_later rfl rfl tie noOwnUnsafe
theorem chunkKnown_row_tie : Rows.chunkKnownRow.laidByTextAt .later Tryz.pinned [.funcs, .data, .data] true :=
  OpenClaim.laidByTextAt_later rfl rfl tie noOwnUnsafe
theorem tie2 : Tryz.prog.laidByTextLater [("math/bits.deBruijn32tab", Rows.laid_math_bits_deBruijn32tab), ("math/bits.deBruijn64tab", Rows.laid_math_bits_deBruijn64tab), ("internal/strconv.uint64pow10", Rows.laid_internal_strconv_uint64pow10), ("sheafworks/word.deeds", Rows.laid_sheafworks_word_deeds), ("sheafworks/word.laws", Rows.laid_sheafworks_word_laws), ("sheafworks/word.neutrals", Rows.laid_sheafworks_word_neutrals)] [.data, .data, .data, .funcs, .data, .data] true :=
  Program.laidByTextLater.sub seatTie1 ["math/bits.deBruijn32tab", "math/bits.deBruijn64tab", "internal/strconv.uint64pow10", "sheafworks/word.deeds", "sheafworks/word.laws", "sheafworks/word.neutrals"] (by kernel_rfl) (by kernel_rfl)
theorem sameNames_row_tie : Rows.sameNamesRow.laidByTextAt .later Tryz.pinned [.data, .data, .data, .funcs, .data, .data] true :=
  OpenClaim.laidByTextAt_later rfl rfl tie2 noOwnUnsafe
theorem tie3 : Tryz.prog.laidByTextLater [("sheafworks/word.deeds", Rows.laid_sheafworks_word_deeds), ("sheafworks/word.laws", Rows.laid_sheafworks_word_laws), ("sheafworks/word.neutrals", Rows.laid_sheafworks_word_neutrals), ("sheafworks/shape.words", Rows.laid_sheafworks_shape_words)] [.funcs, .data, .data, .data] true :=
  Program.laidByTextLater.sub seatTie1 ["sheafworks/word.deeds", "sheafworks/word.laws", "sheafworks/word.neutrals", "sheafworks/shape.words"] (by kernel_rfl) (by kernel_rfl)
theorem shapeNames_row_tie : Rows.shapeNamesRow.laidByTextAt .later Tryz.pinned [.funcs, .data, .data, .data] true :=
  OpenClaim.laidByTextAt_later rfl rfl tie3 noOwnUnsafe
theorem fuseNamesUpto_row_tie : Rows.fuseNamesUptoRow.laidByTextAt .later Tryz.pinned [.funcs, .data, .data] true :=
  OpenClaim.laidByTextAt_later rfl rfl tie noOwnUnsafe
theorem chunkKnownUpto_row_tie : Rows.chunkKnownUptoRow.laidByTextAt .later Tryz.pinned [.funcs, .data, .data] true :=
  OpenClaim.laidByTextAt_later rfl rfl tie noOwnUnsafe
theorem sameNamesUpto_row_tie : Rows.sameNamesUptoRow.laidByTextAt .later Tryz.pinned [.data, .data, .data, .funcs, .data, .data] true :=
  OpenClaim.laidByTextAt_later rfl rfl tie2 noOwnUnsafe
theorem shapeNamesUpto_row_tie : Rows.shapeNamesUptoRow.laidByTextAt .later Tryz.pinned [.funcs, .data, .data, .data] true :=
  OpenClaim.laidByTextAt_later rfl rfl tie3 noOwnUnsafe
end Go.Proofs.YthoenpmifmomaaaGreatDoor
