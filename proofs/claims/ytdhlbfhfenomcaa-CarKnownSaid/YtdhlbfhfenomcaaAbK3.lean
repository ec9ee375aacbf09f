/- CarKnown: calls reckoned, part 3. -/
import Derived.Test.YtdhlbfhfenomcaaAbK2a
import Derived.Test.YtdhlbfhfenomcaaAbK2b
import Derived.Test.YtdhlbfhfenomcaaAbK2c
import Derived.Test.YtdhlbfhfenomcaaAbK2d
import Derived.Test.YtdhlbfhfenomcaaAbK2e
import Derived.Test.YtdhlbfhfenomcaaAbK2f
import Derived.Test.YtdhlbfhfenomcaaAbK2g
namespace Go.Proofs.Ytdhlbfhfenomcaa.Ab
open Go Go.RowKit
set_option linter.unusedVariables false
def ckMW0 : Memo := ckM2
theorem ckMW0_ok : MemoOK Try.prog ckMW0 := ckM2_ok
def ckMW1 : Memo := (36, [ckS0, I 0, I 6, I (1)], .tup [ckS1, .bool true]) :: ckMW0
theorem ckMW1_ok : MemoOK Try.prog ckMW1 := memo_cons ckMW0_ok (memo_run ck_mixed ckF_ok ck2_ok 1000 ckw0 (by kernel_rfl))
def ckMW2 : Memo := (36, [ckS1, I 6, I 11, I (-1)], .tup [ckS2, .bool true]) :: ckMW1
theorem ckMW2_ok : MemoOK Try.prog ckMW2 := memo_cons ckMW1_ok (memo_run ck_mixed ckF_ok ck2_ok 1000 ckw1 (by kernel_rfl))
def ckMW3 : Memo := (36, [ckS0, I 0, I 5, I (-1)], .tup [ckS0, .bool true]) :: ckMW2
theorem ckMW3_ok : MemoOK Try.prog ckMW3 := memo_cons ckMW2_ok (memo_run ck_mixed ckF_ok ck2_ok 1000 ckw2 (by kernel_rfl))
def ckMW4 : Memo := (36, [ckS0, I 5, I 6, I (1)], .tup [ckS1, .bool true]) :: ckMW3
theorem ckMW4_ok : MemoOK Try.prog ckMW4 := memo_cons ckMW3_ok (memo_run ck_mixed ckF_ok ck2_ok 1000 ckw3 (by kernel_rfl))
def ckMW5 : Memo := (36, [ckS1, I 6, I 7, I (1)], .tup [ckS3, .bool true]) :: ckMW4
theorem ckMW5_ok : MemoOK Try.prog ckMW5 := memo_cons ckMW4_ok (memo_run ck_mixed ckF_ok ck2_ok 1000 ckw4 (by kernel_rfl))
def ckMW6 : Memo := (36, [ckS3, I 7, I 8, I (1)], .tup [ckS4, .bool true]) :: ckMW5
theorem ckMW6_ok : MemoOK Try.prog ckMW6 := memo_cons ckMW5_ok (memo_run ck_mixed ckF_ok ck2_ok 1000 ckw5 (by kernel_rfl))
def ckMW7 : Memo := (36, [ckS4, I 8, I 9, I (1)], .tup [ckS4, .bool true]) :: ckMW6
theorem ckMW7_ok : MemoOK Try.prog ckMW7 := memo_cons ckMW6_ok (memo_run ck_mixed ckF_ok ck2_ok 1000 ckw6 (by kernel_rfl))
def ckMW8 : Memo := (36, [ckS4, I 9, I 10, I (1)], .tup [ckS4, .bool true]) :: ckMW7
theorem ckMW8_ok : MemoOK Try.prog ckMW8 := memo_cons ckMW7_ok (memo_run ck_mixed ckF_ok ck2_ok 1000 ckw7 (by kernel_rfl))
def ckMW9 : Memo := (36, [ckS4, I 10, I 11, I (1)], .tup [ckS2, .bool true]) :: ckMW8
theorem ckMW9_ok : MemoOK Try.prog ckMW9 := memo_cons ckMW8_ok (memo_run ck_mixed ckF_ok ck2_ok 1000 ckw8 (by kernel_rfl))
def ckMW10 : Memo := (36, [ckS2, I 11, I 12, I (1)], .tup [ckS5, .bool true]) :: ckMW9
theorem ckMW10_ok : MemoOK Try.prog ckMW10 := memo_cons ckMW9_ok (memo_run ck_mixed ckF_ok ck2_ok 1000 ckw9 (by kernel_rfl))
def ckMW11 : Memo := (36, [ckS5, I 12, I 13, I (1)], .tup [ckS6, .bool true]) :: ckMW10
theorem ckMW11_ok : MemoOK Try.prog ckMW11 := memo_cons ckMW10_ok (memo_run ck_mixed ckF_ok ck2_ok 1000 ckw10 (by kernel_rfl))
def ckMW12 : Memo := (36, [ckS6, I 13, I 14, I (1)], .tup [ckS7, .bool true]) :: ckMW11
theorem ckMW12_ok : MemoOK Try.prog ckMW12 := memo_cons ckMW11_ok (memo_run ck_mixed ckF_ok ck2_ok 1000 ckw11 (by kernel_rfl))
def ckMW13 : Memo := (36, [ckS7, I 14, I 15, I (1)], .tup [ckS8, .bool true]) :: ckMW12
theorem ckMW13_ok : MemoOK Try.prog ckMW13 := memo_cons ckMW12_ok (memo_run ck_mixed ckF_ok ck2_ok 1000 ckw12 (by kernel_rfl))
def ckMW14 : Memo := (36, [ckS8, I 15, I 16, I (1)], .tup [ckS9, .bool true]) :: ckMW13
theorem ckMW14_ok : MemoOK Try.prog ckMW14 := memo_cons ckMW13_ok (memo_run ck_mixed ckF_ok ck2_ok 1000 ckw13 (by kernel_rfl))
def ckMW15 : Memo := (36, [ckS9, I 16, I 17, I (1)], .tup [ckS9, .bool true]) :: ckMW14
theorem ckMW15_ok : MemoOK Try.prog ckMW15 := memo_cons ckMW14_ok (memo_run ck_mixed ckF_ok ck2_ok 1000 ckw14 (by kernel_rfl))
def ckMW16 : Memo := (36, [ckS9, I 17, I 18, I (1)], .tup [ckS9, .bool true]) :: ckMW15
theorem ckMW16_ok : MemoOK Try.prog ckMW16 := memo_cons ckMW15_ok (memo_run ck_mixed ckF_ok ck2_ok 1000 ckw15 (by kernel_rfl))
def ckMW17 : Memo := (36, [ckS9, I 18, I 19, I (1)], .tup [ckS10, .bool true]) :: ckMW16
theorem ckMW17_ok : MemoOK Try.prog ckMW17 := memo_cons ckMW16_ok (memo_run ck_mixed ckF_ok ck2_ok 1000 ckw16 (by kernel_rfl))
def ckMW18 : Memo := (36, [ckS10, I 19, I 20, I (1)], .tup [ckS11, .bool true]) :: ckMW17
theorem ckMW18_ok : MemoOK Try.prog ckMW18 := memo_cons ckMW17_ok (memo_run ck_mixed ckF_ok ck2_ok 1000 ckw17 (by kernel_rfl))
def ckMW19 : Memo := (36, [ckS11, I 20, I 21, I (1)], .tup [ckS9, .bool true]) :: ckMW18
theorem ckMW19_ok : MemoOK Try.prog ckMW19 := memo_cons ckMW18_ok (memo_run ck_mixed ckF_ok ck2_ok 1000 ckw18 (by kernel_rfl))
def ckMW20 : Memo := (36, [ckS0, I 5, I 6, I (1)], .tup [ckS1, .bool true]) :: ckMW19
theorem ckMW20_ok : MemoOK Try.prog ckMW20 := memo_cons ckMW19_ok (memo_run ck_mixed ckF_ok ck2_ok 1000 ckw19 (by kernel_rfl))
def ckMW21 : Memo := (36, [ckS12, I 6, I 21, I (-1)], .tup [ckS13, .bool true]) :: ckMW20
theorem ckMW21_ok : MemoOK Try.prog ckMW21 := memo_cons ckMW20_ok (memo_run ck_mixed ckF_ok ck2_ok 1000 ckw20 (by kernel_rfl))
def ck3 : Table := tabM ckMW21 ck0
theorem ck3_ok : TabOK Try.prog ck3 := tabM_ok ckMW21_ok ck0_ok
end Go.Proofs.Ytdhlbfhfenomcaa.Ab
