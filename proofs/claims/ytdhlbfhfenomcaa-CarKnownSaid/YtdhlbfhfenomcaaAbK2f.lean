/- CarKnown: calls reckoned, part 2f. -/
import Derived.Test.YtdhlbfhfenomcaaAbK1
namespace Go.Proofs.Ytdhlbfhfenomcaa.Ab
open Go Go.RowKit
set_option linter.unusedVariables false
set_option maxRecDepth 100000 in
theorem ckw19 : run Try.prog true ck2 (okL ckF) ckI 1000 36 [ckS0, I 5, I 6, I (1)] [] (fun v h => export1 v h) = some (.tup [ckS1, .bool true], false) := by kernel_rfl
end Go.Proofs.Ytdhlbfhfenomcaa.Ab
