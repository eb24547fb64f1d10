/-
  The list of the tie. No condition.
-/
import Derived.Test.YtfkhilehbikaaaaGreatDoorRows
import Derived.LaidByTextLater
import Derived.SevenTiedAt
import Derived.LaidSub
import Derived.LaidOnce
namespace Go.Proofs.YtfkhilehbikaaaaGreatDoor
open Go
set_option maxRecDepth 100000
noncomputable def tieLaid : List (String × DataW Unit) := [("math/bits.deBruijn32tab", Rows.laid_math_bits_deBruijn32tab), ("math/bits.deBruijn64tab", Rows.laid_math_bits_deBruijn64tab), ("internal/strconv.uint64pow10", Rows.laid_internal_strconv_uint64pow10), ("unicode/utf8.acceptRanges", Rows.laid_unicode_utf8_acceptRanges), ("strconv.ErrRange", Rows.laid_strconv_ErrRange), ("strconv.ErrSyntax", Rows.laid_strconv_ErrSyntax), ("partywall/ast.names", Rows.laid_partywall_ast_names)]
def tieKinds : List LaidKind := [.data, .data, .data, .data, .sentinel, .sentinel, .widerDeep]
end Go.Proofs.YtfkhilehbikaaaaGreatDoor
