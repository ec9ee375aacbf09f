/- The chapter's configuration: checked, and its times. -/
import Derived.Test.YtdhlbfhfenomcaaAbT
import Derived.Test.YtdhlbfhfenomcaaAbG
import Derived.KernelRfl
namespace Go.Proofs.Ytdhlbfhfenomcaa.Ab
open Go
set_option linter.unusedVariables false
def ck0 : Table := fun f => cond (Nat.beq f 166) (some gNext) (cond (Nat.beq f 107) (some gTravel) (cond (Nat.beq f 63) (some gPos) none))
theorem ck0_ok : TabOK Try.prog ck0 := by
  intro f c hc
  unfold ck0 at hc
  cases h1 : Nat.beq f 166 with
  | true =>
    have := Nat.eq_of_beq_eq_true h1
    subst this
    cases hc
    exact ⟨fn_there (by kernel_rfl), next_pure⟩
  | false =>
    rw [h1] at hc
    cases h2 : Nat.beq f 107 with
    | true =>
      have := Nat.eq_of_beq_eq_true h2
      subst this
      cases hc
      exact ⟨fn_there (by kernel_rfl), travel_pure⟩
    | false =>
      rw [h2] at hc
      cases h3 : Nat.beq f 63 with
      | true =>
        have := Nat.eq_of_beq_eq_true h3
        subst this
        cases hc
        exact ⟨fn_there (by kernel_rfl), pos_pure⟩
      | false => rw [h3] at hc; cases hc
def ckI : FuncId → Bool := Nat.beq 80
def I (n : Int) : AV := .int .i64 n
def U (n : Int) : AV := .int .u64 n
/-- The chapter's configuration. -/
def shownA : AV := .agg [I 3, .ros false 2 (lst [I 4, I 4]), I 1, I 2, I 0, I 0, I 1, I 1, I 0, I 0, I 100, I 1, I 1, .ros false 1 (lst [.ros false 1 (lst [I 1])]), U 7, I 0, I 4, U 7, I 0, I 4, U 7, I 0, I 4, .nils, I 50]
def timesA : AV := .agg [I 5, I 3, I 8, I 21, I 21]
set_option maxRecDepth 100000 in
theorem ck_check : run Try.prog true ck0 (okL ckF) ckI 1000 44 [shownA] [] (fun v h => export1 v h) = some (I 0, false) := by kernel_rfl
def ckM1 : Memo := [(44, [shownA], I 0)]
theorem ckM1_ok : MemoOK Try.prog ckM1 := memo_cons memo_nil (memo_run ck_mixed ckF_ok ck0_ok 1000 ck_check (by kernel_rfl))
def ck1 : Table := tabM ckM1 ck0
theorem ck1_ok : TabOK Try.prog ck1 := tabM_ok ckM1_ok ck0_ok
set_option maxRecDepth 100000 in
theorem ck_times : run Try.prog true ck1 (okL ckF) ckI 1000 19 [shownA] [] (fun v h => export1 v h) = some (.tup [timesA, I 0], false) := by kernel_rfl
def ckM2 : Memo := (19, [shownA], .tup [timesA, I 0]) :: ckM1
theorem ckM2_ok : MemoOK Try.prog ckM2 := memo_cons ckM1_ok (memo_run ck_mixed ckF_ok ck1_ok 1000 ck_times (by kernel_rfl))
def ck2 : Table := tabM ckM2 ck0
theorem ck2_ok : TabOK Try.prog ck2 := tabM_ok ckM2_ok ck0_ok
end Go.Proofs.Ytdhlbfhfenomcaa.Ab
