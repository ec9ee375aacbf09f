/- CarKnown: calls reckoned, part 2g. -/
import Derived.Test.YtdhlbfhfenomcaaAbK1
namespace Go.Proofs.Ytdhlbfhfenomcaa.Ab
open Go Go.RowKit
set_option linter.unusedVariables false
set_option maxRecDepth 100000 in
theorem ckw20 : run Try.prog true ck2 (okL ckF) ckI 1000 36 [ckS12, I 6, I 21, I (-1)] [] (fun v h => export1 v h) = some (.tup [ckS13, .bool true], false) := by kernel_rfl
end Go.Proofs.Ytdhlbfhfenomcaa.Ab
