/- CarKnown: calls reckoned, part 1. -/
import Derived.Test.YtdhlbfhfenomcaaAbK0
namespace Go.Proofs.Ytdhlbfhfenomcaa.Ab
open Go Go.RowKit
set_option linter.unusedVariables false
def ckS0 : AV := .agg [.bool true, .bool false, I 0, I (-1), I 0, I 0, I 0, I 0, I 0, I 0, I 0, I 0, I 0, I 0, .bool true]
def ckS1 : AV := .agg [.bool true, .bool false, I 0, I 1, I 1, I 4, I 1, I 2, I 0, I 0, I 0, I 0, I 0, I 0, .bool true]
def ckS2 : AV := .agg [.bool true, .bool false, I 0, I 1, I 4, I 4, I 0, I 0, I 0, I 2, I 1, I 1, I 0, I 1, .bool false]
def ckS3 : AV := .agg [.bool true, .bool false, I 0, I 1, I 3, I 4, I 2, I 2, I 0, I 0, I 0, I 0, I 0, I 0, .bool true]
def ckS4 : AV := .agg [.bool true, .bool false, I 0, I 1, I 4, I 4, I 0, I 0, I 0, I 0, I 0, I 0, I 0, I 0, .bool true]
def ckS5 : AV := .agg [.bool true, .bool false, I 0, I 1, I 4, I 4, I 0, I 0, I 0, I 3, I 1, I 0, I 0, I 2, .bool false]
def ckS6 : AV := .agg [.bool true, .bool false, I 0, I 1, I 4, I 4, I 0, I 0, I 0, I 0, I 0, I 0, I 0, I 3, .bool false]
def ckS7 : AV := .agg [.bool true, .bool false, I 0, I 0, I 3, I 0, I 1, I 2, I 0, I 0, I 0, I 0, I 0, I 3, .bool false]
def ckS8 : AV := .agg [.bool true, .bool false, I 0, I 0, I 1, I 0, I 2, I 2, I 0, I 0, I 0, I 0, I 0, I 3, .bool false]
def ckS9 : AV := .agg [.bool true, .bool false, I 0, I 0, I 0, I 0, I 0, I 0, I 0, I 0, I 0, I 0, I 0, I 3, .bool false]
def ckS10 : AV := .agg [.bool true, .bool false, I 0, I 0, I 0, I 0, I 0, I 0, I 0, I 2, I 1, I 1, I 0, I 1, .bool false]
def ckS11 : AV := .agg [.bool true, .bool false, I 0, I 0, I 0, I 0, I 0, I 0, I 0, I 3, I 1, I 0, I 0, I 2, .bool false]
def ckS12 : AV := .agg [.bool true, .bool true, I 0, I (-1), I 1, I 4, I 1, I 2, I 0, I 0, I 0, I 0, I 0, I 0, .bool true]
def ckS13 : AV := .agg [.bool true, .bool true, I 0, I (-1), I 1, I 1, I 0, I 0, I 0, I 0, I 0, I 0, I 0, I 0, .bool true]
end Go.Proofs.Ytdhlbfhfenomcaa.Ab
