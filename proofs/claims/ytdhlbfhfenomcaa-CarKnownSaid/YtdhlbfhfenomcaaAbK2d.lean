/- CarKnown: calls reckoned, part 2d. -/
import Derived.Test.YtdhlbfhfenomcaaAbK1
namespace Go.Proofs.Ytdhlbfhfenomcaa.Ab
open Go Go.RowKit
set_option linter.unusedVariables false
set_option maxRecDepth 100000 in
theorem ckw5 : run Try.prog true ck2 (okL ckF) ckI 1000 36 [ckS3, I 7, I 8, I (1)] [] (fun v h => export1 v h) = some (.tup [ckS4, .bool true], false) := by kernel_rfl
set_option maxRecDepth 100000 in
theorem ckw6 : run Try.prog true ck2 (okL ckF) ckI 1000 36 [ckS4, I 8, I 9, I (1)] [] (fun v h => export1 v h) = some (.tup [ckS4, .bool true], false) := by kernel_rfl
set_option maxRecDepth 100000 in
theorem ckw7 : run Try.prog true ck2 (okL ckF) ckI 1000 36 [ckS4, I 9, I 10, I (1)] [] (fun v h => export1 v h) = some (.tup [ckS4, .bool true], false) := by kernel_rfl
set_option maxRecDepth 100000 in
theorem ckw8 : run Try.prog true ck2 (okL ckF) ckI 1000 36 [ckS4, I 10, I 11, I (1)] [] (fun v h => export1 v h) = some (.tup [ckS2, .bool true], false) := by kernel_rfl
set_option maxRecDepth 100000 in
theorem ckw9 : run Try.prog true ck2 (okL ckF) ckI 1000 36 [ckS2, I 11, I 12, I (1)] [] (fun v h => export1 v h) = some (.tup [ckS5, .bool true], false) := by kernel_rfl
set_option maxRecDepth 100000 in
theorem ckw10 : run Try.prog true ck2 (okL ckF) ckI 1000 36 [ckS5, I 12, I 13, I (1)] [] (fun v h => export1 v h) = some (.tup [ckS6, .bool true], false) := by kernel_rfl
set_option maxRecDepth 100000 in
theorem ckw11 : run Try.prog true ck2 (okL ckF) ckI 1000 36 [ckS6, I 13, I 14, I (1)] [] (fun v h => export1 v h) = some (.tup [ckS7, .bool true], false) := by kernel_rfl
end Go.Proofs.Ytdhlbfhfenomcaa.Ab
