/- CarKnown: calls reckoned, part 4. -/
import Derived.Test.YtdhlbfhfenomcaaAbK3
namespace Go.Proofs.Ytdhlbfhfenomcaa.Ab
open Go Go.RowKit
set_option linter.unusedVariables false
set_option maxRecDepth 100000 in
theorem ck_awake : run Try.prog true ck3 (okL ckF) ckI 1000 40 [] [] (fun v h => export1 v h) = some (.bool true, false) := by kernel_rfl
def ckM4 : Memo := (40, [], .bool true) :: ckMW21
theorem ckM4_ok : MemoOK Try.prog ckM4 := memo_cons ckMW21_ok (memo_run ck_mixed ckF_ok ck3_ok 1000 ck_awake (by kernel_rfl))
def ck4 : Table := tabM ckM4 ck0
theorem ck4_ok : TabOK Try.prog ck4 := tabM_ok ckM4_ok ck0_ok
end Go.Proofs.Ytdhlbfhfenomcaa.Ab
