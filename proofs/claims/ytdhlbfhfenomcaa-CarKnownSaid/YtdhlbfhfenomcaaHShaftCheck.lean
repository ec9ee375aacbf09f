/- shaft.Check, told by hand: what it answers, and that the Go code comes to it. -/
import Derived.Test.YtdhlbfhfenomcaaProg
import Derived.Below
import Derived.Deep.Draws
import Derived.Deep.AppendLies
import Derived.Maps.AppendAt
import Derived.OwnWalk
import Derived.Laws.BytesArg
import Derived.Laws.MakeOwn
import Derived.Laws.OwnMore
import Derived.Deep.OwnRows
import Derived.Tactics
import Derived.Lib.ConvBytes
import Derived.Laws.Slices
import Derived.WalkKit
import Derived.KernelRfl
import Derived.RowKit3
import Derived.Deep.LoopGhost
import Derived.Deep.QuietTactic
import Derived.BigQuiet
import Derived.WideLaws
import Derived.Deep.DeepCutAuto
import Derived.Deep.CutBlock
import Derived.Deep.RegionHeld3
import Derived.Laws.Rows
import Derived.Lib.AppendStr
import Derived.ArgAppend
import Derived.Laws.IdiomCopy
import Derived.OrdersHeld
import Derived.Laws.BitsLemmas
import Derived.RowKit
import Derived.Test.YtdhlbfhfenomcaaMw
namespace Go.Proofs.Ytdhlbfhfenomcaa.PS
open Go.RowKit Go.Proofs.YtdhlbfhfenomcaaW.PrintWords Go.Proofs.YtdhlbfhfenomcaaW.PrintLast Go.Proofs.YtdhlbfhfenomcaaW.PrintMore
attribute [local go_sem] max2_int min2_int max_two min_two max_three min_three max_four min_four
set_option linter.unusedVariables false
set_option linter.unusedSimpArgs false
def gapB (x : Int) : Bool := decide (x < 1) || decide (1000 < x)
def firstIdx (p : Int → Bool) : List Int → Nat → Int
  | [], _ => -1
  | x :: r, i => if p x = true then (i : Int) else firstIdx p r (i + 1)
theorem firstIdx_drop (p : Int → Bool) (l : List Int) : ∀ k, k < l.length → firstIdx p (l.drop k) k = if p (rd l k) = true then (k : Int) else firstIdx p (l.drop (k + 1)) (k + 1) := by
  intro k hk
  rw [List.drop_eq_getElem_cons hk]
  have e : rd l (k : Int) = l[k] := by simp [rd, List.getD_eq_getElem?_getD, hk]
  rw [e]
  rfl
theorem shaft_gap_calls (x : Int) (w : World) : Calls Try.prog 137 #[.int .i64 x] w fun e w' => e = .returned (.bool (gapB x)) ∧ w = w' := by
  by_cases h : x < 1
  · have h1 : decide (x < 1) = true := by simpa using h
    have H := Aside0.mk (show gapB x = true by simp [gapB, h])
    clear h
    go_enter Try.func137, Try.ntmps137
    go_wp2
    go_ret
    exact ⟨Mw.ret_bool H.out.symm, rfl⟩
  · have h1 : decide (x < 1) = false := by simpa using h
    have H := Aside0.mk (show gapB x = decide (1000 < x) by simp [gapB, h])
    clear h
    go_enter Try.func137, Try.ntmps137
    go_wp2
    go_ret
    exact ⟨Mw.ret_bool H.out.symm, rfl⟩
set_option maxHeartbeats 1000000 in
theorem shaft_index_calls (A0 : Option Addr) (c0 : Nat) (l0 : List Int) (w : World) (hr0 : Kd.C (Kd.int .i64) w A0 l0.length l0) :
    Calls Try.prog 138 #[.slice A0 l0.length c0, .func (.func 137) #[] #[]] w fun e w' => e = .returned (.int .i64 (firstIdx gapB l0 0)) ∧ w = w' := by
  have HR := Aside0.mk hr0
  have hm := Kd.C_max hr0
  clear hr0
  go_enter Try.func138, Try.ntmps138
  go_wp2
  go_loop [8] (fun i => ∃ k : Nat, k ≤ l0.length ∧ i = .int .i64 k ∧ Aside0 (firstIdx gapB (l0.drop k) k = firstIdx gapB l0 0)) (fun i => l0.length - (intOf i).toNat)
  case atStart => exact ⟨0, Nat.zero_le _, rfl, ⟨rfl⟩⟩
  case round =>
    obtain ⟨k, hk, rfl, HF⟩ := hrel
    by_cases hlt : k < l0.length
    · obtain ⟨ad, ead, hcell⟩ := Kd.at_int HR.out (k : Int) (by omega) (by omega)
      subst ead
      rw [Int.toNat_natCast] at hcell
      have HS := Aside0.mk (firstIdx_drop gapB l0 k hlt)
      cases hg : gapB (rd l0 k) with
      | true =>
        have HG := Aside0.mk hg
        clear hg
        go_wp2_with (go_at_call 137; refine (shaft_gap_calls _ _).mono ?_; rw [HG.out]; rintro e w' ⟨rfl, rfl⟩)
        go_ret
        exact ⟨Mw.ret_int (by rw [← HF.out, HS.out, if_pos HG.out]), rfl⟩
      | false =>
        have HG := Aside0.mk hg
        clear hg
        go_wp2_with (go_at_call 137; refine (shaft_gap_calls _ _).mono ?_; rw [HG.out]; rintro e w' ⟨rfl, rfl⟩)
        go_round
        case rel => exact ⟨k + 1, by omega, by go_num, ⟨by rw [← HF.out, HS.out, if_neg (by rw [HG.out]; simp)]⟩⟩
        case measure => simp [intOf]; omega
    · go_wp2
      go_ret
      have e : k = l0.length := by omega
      exact ⟨Mw.ret_int (by rw [← HF.out, e, List.drop_length]; rfl), rfl⟩
def shaft_Check.f (l0 : List Int) : Option (Int × Int) := some (if l0.length < 1 then (4, 0) else if 64 ≤ l0.length then (4, 0) else if firstIdx gapB l0 0 < 0 then (0, 0) else (2, firstIdx gapB l0 0))
set_option maxHeartbeats 1000000 in
theorem shaft_Check.calls (A0 : Option Addr) (c0 : Nat) (l0 : List Int) (r1 : Int) (r2 : Int) (w : World) (hr0 : Kd.C (Kd.int .i64) w A0 l0.length l0) (hc0 : l0.length ≤ c0) (h : shaft_Check.f l0 = some (r1, r2)) :
    Calls Try.prog 102 #[.slice A0 l0.length c0] w fun e w' => e = .returned (.tuple #[.int .i64 r1, .int .i64 r2]) ∧ Below w.heap.size w w' := by
  have HR := Aside0.mk hr0
  have hm := Kd.C_max hr0
  clear hr0 hc0
  unfold shaft_Check.f at h
  replace h := Option.some.inj h
  by_cases h1 : l0.length < 1
  · rw [if_pos h1] at h
    obtain ⟨rfl, rfl⟩ := Prod.mk.inj h
    have hd : decide ((l0.length : Int) < 1) = true := by simp; omega
    clear h
    go_enter Try.func102, Try.ntmps102
    go_wp2
    go_ret2
    exact ⟨rfl, Below.refl _ _⟩
  · rw [if_neg h1] at h
    have hd : decide ((l0.length : Int) < 1) = false := by simp; omega
    by_cases h2 : 64 ≤ l0.length
    · rw [if_pos h2] at h
      obtain ⟨rfl, rfl⟩ := Prod.mk.inj h
      have hd2 : decide (64 ≤ (l0.length : Int)) = true := by simp; omega
      clear h
      go_enter Try.func102, Try.ntmps102
      go_wp2
      go_ret2
      exact ⟨rfl, Below.refl _ _⟩
    · rw [if_neg h2] at h
      have hd2 : decide (64 ≤ (l0.length : Int)) = false := by simp; omega
      by_cases h3 : firstIdx gapB l0 0 < 0
      · rw [if_pos h3] at h
        obtain ⟨rfl, rfl⟩ := Prod.mk.inj h
        clear h
        go_enter Try.func102, Try.ntmps102
        go_wp2_with (go_at_call 138; refine (shaft_index_calls _ _ _ _ HR.out).mono ?_; rintro e w' ⟨rfl, rfl⟩)
        go_ret2
        exact ⟨rfl, Below.refl _ _⟩
      · rw [if_neg h3] at h
        obtain ⟨rfl, rfl⟩ := Prod.mk.inj h
        clear h
        go_enter Try.func102, Try.ntmps102
        go_wp2_with (go_at_call 138; refine (shaft_index_calls _ _ _ _ HR.out).mono ?_; rintro e w' ⟨rfl, rfl⟩)
        go_ret2
        exact ⟨rfl, Below.refl _ _⟩
end Go.Proofs.Ytdhlbfhfenomcaa.PS
