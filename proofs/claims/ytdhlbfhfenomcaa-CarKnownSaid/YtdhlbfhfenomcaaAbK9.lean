/- CarKnown: calls reckoned, part 9. -/
import Derived.Test.YtdhlbfhfenomcaaAbK4
import Derived.Test.YtdhlbfhfenomcaaAbW
namespace Go.Proofs.Ytdhlbfhfenomcaa.Ab
open Go Go.RowKit
set_option linter.unusedVariables false
set_option maxRecDepth 100000 in
theorem ck_known : run Try.prog true ck4 (okL ckF) ckI 1000 8 [] [] retB = some true := by kernel_rfl
theorem known_walk (w : World) : Calls Try.prog 8 #[] w fun e w' => e = .returned (.bool true) ∧ Below w.heap.size w w' := true_no_arg ck_mixed ckF_ok ck4_ok 1000 ck_known w
end Go.Proofs.Ytdhlbfhfenomcaa.Ab
