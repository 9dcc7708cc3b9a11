/- THE PROGRAM's TIE, out of its closed facts. No condition. -/
import Derived.Test.YtdodnmeilhhhgaaGreatDoorTieB
noncomputable section
namespace Go.Proofs.YtdodnmeilhhhgaaGreatDoor
theorem own_tie : Tryz.prog.laidByTextLater [("strconv.ErrSyntax", Rows.laid_strconv_ErrSyntax), ("strconv.ErrRange", Rows.laid_strconv_ErrRange), ("internal/strconv.uint64pow10", Rows.laid_internal_strconv_uint64pow10), ("math/bits.deBruijn32tab", Rows.laid_math_bits_deBruijn32tab), ("math/bits.deBruijn64tab", Rows.laid_math_bits_deBruijn64tab), ("stillage/sha.constants", Rows.laid_stillage_sha_constants)] [.sentinel, .sentinel, .data, .data, .data, .data] true :=
  Program.laidByTextLater_by_run 400 8 tie_hw tie_hw' tie_hroot tie_hk tie_hg tie_hn tie_hd tie_h1 tie_h2
end Go.Proofs.YtdodnmeilhhhgaaGreatDoor
