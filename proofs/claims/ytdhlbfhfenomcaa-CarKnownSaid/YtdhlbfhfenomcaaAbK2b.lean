/- CarKnown: calls reckoned, part 2b. -/
import Derived.Test.YtdhlbfhfenomcaaAbK1
namespace Go.Proofs.Ytdhlbfhfenomcaa.Ab
open Go Go.RowKit
set_option linter.unusedVariables false
set_option maxRecDepth 100000 in
theorem ckw1 : run Try.prog true ck2 (okL ckF) ckI 1000 36 [ckS1, I 6, I 11, I (-1)] [] (fun v h => export1 v h) = some (.tup [ckS2, .bool true], false) := by kernel_rfl
end Go.Proofs.Ytdhlbfhfenomcaa.Ab
