/- CarKnown: calls reckoned, part 2e. -/
import Derived.Test.YtdhlbfhfenomcaaAbK1
namespace Go.Proofs.Ytdhlbfhfenomcaa.Ab
open Go Go.RowKit
set_option linter.unusedVariables false
set_option maxRecDepth 100000 in
theorem ckw12 : run Try.prog true ck2 (okL ckF) ckI 1000 36 [ckS7, I 14, I 15, I (1)] [] (fun v h => export1 v h) = some (.tup [ckS8, .bool true], false) := by kernel_rfl
set_option maxRecDepth 100000 in
theorem ckw13 : run Try.prog true ck2 (okL ckF) ckI 1000 36 [ckS8, I 15, I 16, I (1)] [] (fun v h => export1 v h) = some (.tup [ckS9, .bool true], false) := by kernel_rfl
set_option maxRecDepth 100000 in
theorem ckw14 : run Try.prog true ck2 (okL ckF) ckI 1000 36 [ckS9, I 16, I 17, I (1)] [] (fun v h => export1 v h) = some (.tup [ckS9, .bool true], false) := by kernel_rfl
set_option maxRecDepth 100000 in
theorem ckw15 : run Try.prog true ck2 (okL ckF) ckI 1000 36 [ckS9, I 17, I 18, I (1)] [] (fun v h => export1 v h) = some (.tup [ckS9, .bool true], false) := by kernel_rfl
set_option maxRecDepth 100000 in
theorem ckw16 : run Try.prog true ck2 (okL ckF) ckI 1000 36 [ckS9, I 18, I 19, I (1)] [] (fun v h => export1 v h) = some (.tup [ckS10, .bool true], false) := by kernel_rfl
set_option maxRecDepth 100000 in
theorem ckw17 : run Try.prog true ck2 (okL ckF) ckI 1000 36 [ckS10, I 19, I 20, I (1)] [] (fun v h => export1 v h) = some (.tup [ckS11, .bool true], false) := by kernel_rfl
set_option maxRecDepth 100000 in
theorem ckw18 : run Try.prog true ck2 (okL ckF) ckI 1000 36 [ckS11, I 20, I 21, I (1)] [] (fun v h => export1 v h) = some (.tup [ckS9, .bool true], false) := by kernel_rfl
end Go.Proofs.Ytdhlbfhfenomcaa.Ab
