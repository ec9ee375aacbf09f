/- The functions that are reckoned: their regions are checked. -/
import Derived.Test.YtdhlbfhfenomcaaAbM
import Derived.Test.YtdhlbfhfenomcaaProg
import Derived.KernelRfl
namespace Go.Proofs.Ytdhlbfhfenomcaa.Ab
open Go
set_option linter.unusedVariables false
def ckF0 : List Nat := [8]
set_option maxRecDepth 100000 in
theorem ckF0_ok : ckF0.all (chkF Try.prog) = true := by kernel_rfl
def ckF1 : List Nat := [19, 33, 34, 35, 36, 37, 38, 39, 40, 41, 44, 52, 53, 54, 67, 69, 72, 73, 74, 75, 76, 77, 78, 79]
set_option maxRecDepth 100000 in
theorem ckF1_ok : ckF1.all (chkF Try.prog) = true := by kernel_rfl
def ckF2 : List Nat := [80, 81, 82, 83, 84, 85, 86, 87, 97, 106, 108, 109, 111, 112, 113, 114, 115, 116, 117, 118, 119, 140, 141, 142]
set_option maxRecDepth 100000 in
theorem ckF2_ok : ckF2.all (chkF Try.prog) = true := by kernel_rfl
def ckF3 : List Nat := [143, 144, 145, 146, 147, 148, 149, 150, 151, 160, 167, 168, 169, 170, 171, 172, 173, 174, 175, 176, 177, 178, 179, 180]
set_option maxRecDepth 100000 in
theorem ckF3_ok : ckF3.all (chkF Try.prog) = true := by kernel_rfl
def ckF4 : List Nat := [181, 183, 188, 189, 190, 191, 192, 193, 194, 195, 196, 201, 202, 203]
set_option maxRecDepth 100000 in
theorem ckF4_ok : ckF4.all (chkF Try.prog) = true := by kernel_rfl
def ckF : List Nat := ckF0 ++ ckF1 ++ ckF2 ++ ckF3 ++ ckF4
theorem ckF_ok : FunOK Try.prog (okL ckF) := funOK_of (chk_append (chk_append (chk_append (chk_append (chk_all ckF0_ok) (chk_all ckF1_ok)) (chk_all ckF2_ok)) (chk_all ckF3_ok)) (chk_all ckF4_ok))
theorem ck_mixed : Try.prog.follows .mixedOrders = true := by kernel_rfl
end Go.Proofs.Ytdhlbfhfenomcaa.Ab
