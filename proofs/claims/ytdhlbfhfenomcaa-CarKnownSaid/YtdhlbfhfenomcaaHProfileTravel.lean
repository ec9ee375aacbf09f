/- profile.travel, told by hand: what it answers, and that the Go code comes to it. -/
import Derived.Test.YtdhlbfhfenomcaaProg
import Derived.Below
import Derived.Deep.Draws
import Derived.Deep.AppendLies
import Derived.Maps.AppendAt
import Derived.OwnWalk
import Derived.Laws.BytesArg
import Derived.Laws.MakeOwn
import Derived.Laws.OwnMore
import Derived.Deep.OwnRows
import Derived.Tactics
import Derived.Lib.ConvBytes
import Derived.Laws.Slices
import Derived.WalkKit
import Derived.KernelRfl
import Derived.RowKit3
import Derived.Deep.LoopGhost
import Derived.Deep.QuietTactic
import Derived.BigQuiet
import Derived.WideLaws
import Derived.Deep.DeepCutAuto
import Derived.Deep.CutBlock
import Derived.Deep.RegionHeld3
import Derived.Laws.Rows
import Derived.Lib.AppendStr
import Derived.ArgAppend
import Derived.Laws.IdiomCopy
import Derived.OrdersHeld
import Derived.Laws.BitsLemmas
import Derived.RowKit
import Derived.Test.YtdhlbfhfenomcaaMw
import Derived.RangeFuncNested
import Derived.RangeFuncBound
import Derived.RangeFuncCalls
import Derived.RangeFuncLeaves
import Derived.RangeFuncFrom
import Derived.OwnWalkIn
import Derived.TacticsInMore
import Derived.LoopNIn
import Derived.LoopIn
import Derived.Shelf.Abstract
import Derived.Shelf.RegionOpen
namespace Go.Proofs.Ytdhlbfhfenomcaa.PS
open Go.RowKit Go.Proofs.YtdhlbfhfenomcaaW.PrintWords Go.Proofs.YtdhlbfhfenomcaaW.PrintLast Go.Proofs.YtdhlbfhfenomcaaW.PrintMore
attribute [local go_sem] max2_int min2_int max_two min_two max_three min_three max_four min_four
set_option linter.unusedVariables false
set_option linter.unusedSimpArgs false
def triI (v : Int) : Int := (v * (v + 1)) / 2
theorem triI_bd (v : Int) (h0 : -1 ≤ v) (h1 : v ≤ 21) : 0 ≤ triI v ∧ triI v ≤ 231 := by
  have hs : v = -1 ∨ v = 0 ∨ v = 1 ∨ v = 2 ∨ v = 3 ∨ v = 4 ∨ v = 5 ∨ v = 6 ∨ v = 7 ∨ v = 8 ∨ v = 9 ∨ v = 10 ∨ v = 11 ∨ v = 12 ∨ v = 13 ∨ v = 14 ∨ v = 15 ∨ v = 16 ∨ v = 17 ∨ v = 18 ∨ v = 19 ∨ v = 20 ∨ v = 21 := by omega
  rcases hs with rfl | rfl | rfl | rfl | rfl | rfl | rfl | rfl | rfl | rfl | rfl | rfl | rfl | rfl | rfl | rfl | rfl | rfl | rfl | rfl | rfl | rfl | rfl <;> decide +kernel
theorem tri_eq (v : Int) (h0 : 0 ≤ v) (h1 : v ≤ 21) : wrap64 (Int.tdiv (wrap64 (v * wrap64 (v + 1))) 2) = triI v := by
  have hs : v = 0 ∨ v = 1 ∨ v = 2 ∨ v = 3 ∨ v = 4 ∨ v = 5 ∨ v = 6 ∨ v = 7 ∨ v = 8 ∨ v = 9 ∨ v = 10 ∨ v = 11 ∨ v = 12 ∨ v = 13 ∨ v = 14 ∨ v = 15 ∨ v = 16 ∨ v = 17 ∨ v = 18 ∨ v = 19 ∨ v = 20 ∨ v = 21 := by omega
  rcases hs with rfl | rfl | rfl | rfl | rfl | rfl | rfl | rfl | rfl | rfl | rfl | rfl | rfl | rfl | rfl | rfl | rfl | rfl | rfl | rfl | rfl | rfl <;> decide +kernel
theorem tri_calls (v : Int) (w : World) : Calls Try.prog 187 #[.int .i64 v] w fun e w' => e = .returned (.int .i64 (wrap64 (Int.tdiv (wrap64 (v * wrap64 (v + 1))) 2))) ∧ w = w' := by
  go_enter Try.func187, Try.ntmps187
  go_wp2
  go_ret
  exact ⟨rfl, rfl⟩
def fitsV (v l m : Int) : Bool := decide (0 ≤ v) && (decide (v ≤ m) && decide (triI v ≤ l))
/-- The next speed, if there is one. -/
def nxtV (s l m : Int) : Option Int := if fitsV (s + 1) l m = true then some (s + 1) else if fitsV s l m = true then some s else if fitsV (s - 1) l m = true then some (s - 1) else none
theorem tri_fit_calls (v : Int) (w : World) (h0 : 0 ≤ v) (h1 : v ≤ 21) : Calls Try.prog 187 #[.int .i64 v] w fun e w' => e = .returned (.int .i64 (triI v)) ∧ w = w' :=
  (tri_calls v w).mono fun e w' ⟨he, hw⟩ => ⟨by rw [he, tri_eq v h0 h1], hw⟩
set_option maxHeartbeats 2000000 in
theorem next_calls (s l m : Int) (w : World) (h0 : 0 ≤ s) (h1 : s ≤ 20) (hm1 : 1 ≤ m) (hm : m ≤ 20) :
    Calls Try.prog 166 #[.int .i64 s, .int .i64 l, .int .i64 m] w fun e w' => e = .returned (.tuple #[.int .i64 ((nxtV s l m).getD (s - 1)), .bool (nxtV s l m).isSome]) ∧ w = w' := by
  have i0 : ∀ (x y z : Int) (w : World), (Instr.index 238 (.agg #[.int .i64 x, .int .i64 y, .int .i64 z]) (.int .i64 0)).run Try.prog w = .ok (.int .i64 x) w := fun _ _ _ _ => by kernel_rfl
  have i1 : ∀ (x y z : Int) (w : World), (Instr.index 238 (.agg #[.int .i64 x, .int .i64 y, .int .i64 z]) (.int .i64 1)).run Try.prog w = .ok (.int .i64 y) w := fun _ _ _ _ => by kernel_rfl
  have i2 : ∀ (x y z : Int) (w : World), (Instr.index 238 (.agg #[.int .i64 x, .int .i64 y, .int .i64 z]) (.int .i64 2)).run Try.prog w = .ok (.int .i64 z) w := fun _ _ _ _ => by kernel_rfl
  go_enter Try.func166, Try.ntmps166
  go_wp2
  go_step3
  go_wp2
  go_step3
  go_wp2
  refine wp_loop_rounds 4 ?_
  rw [rounds_succ]
  go_wp2_with (go_at_call 187; refine (tri_fit_calls _ _ (by omega) (by omega)).mono ?_; rintro e w' ⟨rfl, rfl⟩)
  any_goals (rw [rounds_succ]; go_wp2_with (go_at_call 187; refine (tri_fit_calls _ _ (by omega) (by omega)).mono ?_; rintro e w' ⟨rfl, rfl⟩))
  any_goals (rw [rounds_succ]; go_wp2_with (go_at_call 187; refine (tri_fit_calls _ _ (by omega) (by omega)).mono ?_; rintro e w' ⟨rfl, rfl⟩))
  any_goals (rw [rounds_succ]; go_wp2)
  all_goals
    rw [Exit.noGoto_ret]
    go_ret2
    refine ⟨?_, rfl⟩
    first
      | (rw [show nxtV s l m = some (s + 1) from by unfold nxtV fitsV; rw [if_pos (by simp; omega)]]; rfl)
      | (rw [show nxtV s l m = some s from by unfold nxtV fitsV; rw [if_neg (by simp; omega), if_pos (by simp; omega)]]; rfl)
      | (rw [show nxtV s l m = some (s - 1) from by unfold nxtV fitsV; rw [if_neg (by simp; omega), if_neg (by simp; omega), if_pos (by simp; omega)]]; rfl)
      | (rw [show nxtV s l m = none from by unfold nxtV fitsV; rw [if_neg (by simp; omega), if_neg (by simp; omega), if_neg (by simp; omega)]]; rfl)
section
attribute [local go_sem] Oper.semAt_some
theorem triI_succ (v : Int) (h0 : 0 ≤ v) (h1 : v ≤ 21) : triI v = triI (v - 1) + v := by
  have hs : v = 0 ∨ v = 1 ∨ v = 2 ∨ v = 3 ∨ v = 4 ∨ v = 5 ∨ v = 6 ∨ v = 7 ∨ v = 8 ∨ v = 9 ∨ v = 10 ∨ v = 11 ∨ v = 12 ∨ v = 13 ∨ v = 14 ∨ v = 15 ∨ v = 16 ∨ v = 17 ∨ v = 18 ∨ v = 19 ∨ v = 20 ∨ v = 21 := by omega
  rcases hs with rfl | rfl | rfl | rfl | rfl | rfl | rfl | rfl | rfl | rfl | rfl | rfl | rfl | rfl | rfl | rfl | rfl | rfl | rfl | rfl | rfl | rfl <;> decide
/-- A ride can go on: what is left is enough for the speed below. -/
def canRide (v l m : Int) : Prop := 0 ≤ v ∧ v ≤ m ∧ 1 ≤ m ∧ m ≤ 20 ∧ triI (v - 1) ≤ l ∧ 0 ≤ l
theorem canRide_next {v l m : Int} (h : canRide v l m) (hl : 0 < l) : ∃ u, nxtV v l m = some u ∧ 1 ≤ u ∧ u ≤ l ∧ canRide u (l - u) m := by
  obtain ⟨h0, h1, h2, h3, h4, h5⟩ := h
  have t1 : triI 1 = 1 := by decide
  have key : ∀ u, nxtV v l m = some u → 1 ≤ u → u ≤ m → triI u ≤ l → ∃ u, nxtV v l m = some u ∧ 1 ≤ u ∧ u ≤ l ∧ canRide u (l - u) m := by
    intro u hu u1 u2 u3
    have hs := triI_succ u (by omega) (by omega)
    have hb := triI_bd (u - 1) (by omega) (by omega)
    exact ⟨u, hu, u1, by omega, by omega, u2, h2, h3, by omega, by omega⟩
  cases ha : fitsV (v + 1) l m with
  | true =>
    have e : nxtV v l m = some (v + 1) := by simp [nxtV, ha]
    simp [fitsV] at ha
    exact key _ e (by omega) (by omega) (by omega)
  | false =>
    cases hb : fitsV v l m with
    | true =>
      have e : nxtV v l m = some v := by simp [nxtV, ha, hb]
      simp [fitsV] at hb
      rcases Int.lt_or_le 0 v with hv | hv
      · exact key _ e (by omega) (by omega) (by omega)
      · have : v = 0 := by omega
        subst this
        exfalso
        simp [fitsV] at ha
        have := ha (by omega)
        have t2 : triI (0 + 1) = 1 := by decide
        omega
    | false =>
      have e : nxtV v l m = if fitsV (v - 1) l m = true then some (v - 1) else none := by simp [nxtV, ha, hb]
      rcases Int.lt_or_le 1 v with hv | hv
      · have hc : fitsV (v - 1) l m = true := by simp [fitsV]; omega
        rw [if_pos hc] at e
        exact key _ e (by omega) (by omega) (by omega)
      · exfalso
        simp [fitsV] at ha hb
        rcases (show v = 0 ∨ v = 1 from by omega) with rfl | rfl
        · have := ha (by omega)
          have t2 : triI (0 + 1) = 1 := by decide
          omega
        · have := hb (by omega)
          omega
/-- The speeds of a ride. -/
def rideL (m : Int) : Nat → Int → Int → List Int
  | 0, _, _ => []
  | k + 1, v, l => if 0 < l then (nxtV v l m).getD (v - 1) :: rideL m k ((nxtV v l m).getD (v - 1)) (l - (nxtV v l m).getD (v - 1)) else []
theorem rideL_len (m : Int) : ∀ (k : Nat) (v l : Int), (rideL m k v l).length ≤ k
  | 0, _, _ => by simp [rideL]
  | k + 1, v, l => by
    unfold rideL
    split
    · simp; exact rideL_len m k _ _
    · simp
set_option maxRecDepth 100000 in
set_option maxHeartbeats 2000000 in
theorem ride1_in (n : Nat) (hn : 1 ≤ n) (l Bn Bm : Nat) (N m : Int) (hN0 : 0 ≤ N) (hN1 : N ≤ 63000) (hm1 : 1 ≤ m) (hm : m ≤ 20) (J Jx : List Int → World → Prop)
    (hY : ∀ pre x W, J pre W → pre.length < (rideL m N.toNat 0 N).length → YieldAt Fence.wide (n - 1) Try.prog l #[.int .i64 x] W fun e W' =>
      (e = .returned (.bool true) ∧ J (pre ++ [x]) W' ∧ W'.heap[Bm]? = W.heap[Bm]?) ∨ (e = .returned (.bool false) ∧ Jx (pre ++ [x]) W'))
    (W : World) (hBn : W.cell? ⟨Bn, 0, none⟩ = some (.int .i64 N)) (hBm : W.heap[Bm]? = some (.cells #[.int .i64 m] 3 (0, 0))) (h0 : J [] W) :
    CallsIn Fence.wide n Try.prog 165 #[.func (.yield l) #[] #[], .pointer (some ⟨Bn, 0, none⟩), .pointer (some ⟨Bm, 0, none⟩)] W fun e W' => (∃ v, e = .returned v) ∧
      ((∃ ys, ys = rideL m N.toNat 0 N ∧ J ys W') ∨ (∃ pre, pre <+: rideL m N.toNat 0 N ∧ Jx pre W')) := by
  refine callsIn_of_wp Try.func165 rfl trivial ?_ rfl
  simp only [Try.ntmps165, List.size_toArray, List.length_cons, List.length_nil, Nat.reduceAdd, Nat.reduceSub, Array.replicate_succ, Array.replicate_zero, List.push_toArray, List.append_toArray, List.nil_append, List.cons_append]
  gi_wp2
  gi_loopw [4, 5] (fun v l wr => ∃ (pre : List Int) (k : Nat) (v0 l0 : Int), v = .int .i64 v0 ∧ l = .int .i64 l0 ∧ canRide v0 l0 m ∧ l0 ≤ k ∧ l0 ≤ 63000 ∧ Aside0 (rideL m N.toNat 0 N = pre ++ rideL m k v0 l0) ∧ J pre wr ∧ Aside0 (wr.heap[Bm]? = some (.cells #[.int .i64 m] 3 (0, 0))))
    (fun _ l _ => (intOf l).toNat)
  case atStart =>
    have t0 : triI (0 - 1) = 0 := by decide
    exact ⟨[], N.toNat, 0, N, rfl, rfl, ⟨by omega, by omega, hm1, hm, by omega, hN0⟩, by omega, hN1, ⟨rfl⟩, h0, ⟨hBm⟩⟩
  case round =>
    obtain ⟨pre, k, v0, l0, rfl, rfl, hc, hk, hl3, hx, hJ, hB⟩ := hrel
    have hlim : wr.cell? ⟨Bm, 0, none⟩ = some (.int .i64 m) := (blk_cell hB.out 0).trans rfl
    by_cases hpos : 0 < l0
    · obtain ⟨k, rfl⟩ : ∃ j, k = j + 1 := ⟨k - 1, by omega⟩
      obtain ⟨u, hu, u1, u2, hcu⟩ := canRide_next hc hpos
      have hc1 := hc.1
      have hc2 : v0 ≤ 20 := by have := hc.2.1; omega
      have hu20 : u ≤ 20 := by have := hcu.2.1; omega
      have hx' : rideL m N.toNat 0 N = (pre ++ [u]) ++ rideL m k u (l0 - u) := by
        rw [hx.out]
        simp only [rideL, if_pos hpos, hu, Option.getD_some, List.append_assoc, List.cons_append, List.nil_append]
      obtain ⟨fn, tmps, assign, body, hy, hR⟩ := hY pre u wr hJ (by rw [hx']; simp)
      have HU := Aside0.mk hu
      clear hu
      gi_wp2_with (refine ⟨trivial, ?_⟩; gi_at_call 166; refine (callsIn_wide.2 (next_calls _ _ _ _ (by omega) (by omega) hm1 hm)).mono ?_; rw [HU.out]; rintro e w' ⟨rfl, rfl⟩)
      have HX := Aside0.mk hx'
      clear hx' hx
      refine hR.mono ?_
      rintro e W3 (⟨rfl, hJ3, hk3⟩ | ⟨rfl, hJx3⟩)
      · have HB3 := Aside0.mk (hk3.trans hB.out)
        clear hk3 hlim
        gi_wp2
        go_roundw
        case rel => exact ⟨pre ++ [u], k, u, l0 - u, rfl, rfl, hcu, by omega, by omega, HX, hJ3, HB3⟩
        case measure => simp [intOf]; omega
      · gi_wp2
        refine bodyPost_ret (results_none rfl _ _ _) rfl ?_
        exact ⟨⟨_, rfl⟩, .inr ⟨pre ++ [u], ⟨_, HX.out.symm⟩, hJx3⟩⟩
    · have e : l0 = 0 := by have := hc.2.2.2.2.2; omega
      subst e
      gi_wp2
      go_end0
      have ep : rideL m N.toNat 0 N = pre := by
        rw [hx.out]
        cases k <;> simp [rideL]
      refine ⟨⟨_, rfl⟩, .inl ?_⟩
      rw [ep]
      exact hJ
theorem ride_in (n : Nat) (a b : Int) (w : World) :
    CallsIn Fence.wide n Try.prog 139 #[.int .i64 a, .int .i64 b] w fun e w' => e = .returned (.func (.func 165) #[] #[.pointer (some ⟨w.heap.size, 0, none⟩), .pointer (some ⟨w.heap.size + 1, 0, none⟩)]) ∧ w' = (w.alloc (.cells #[.int .i64 a] 3)).alloc (.cells #[.int .i64 b] 3) := by
  refine callsIn_of_wp Try.func139 rfl trivial ?_ rfl
  simp only [Try.ntmps139, List.size_toArray, List.length_cons, List.length_nil, Nat.reduceAdd, Nat.reduceSub, Array.replicate_succ, Array.replicate_zero, List.push_toArray, List.append_toArray, List.nil_append, List.cons_append]
  gi_wp2
  go_ret
  exact ⟨rfl, rfl⟩
def tickOf (xs : List Int) : Int := xs.length
def peakOf (xs : List Int) : Int := xs.foldl (fun p v => mx p v) 0
theorem tick_snoc (pre : List Int) (x : Int) : tickOf (pre ++ [x]) = tickOf pre + 1 := by simp [tickOf]
theorem peak_snoc (pre : List Int) (x : Int) : peakOf (pre ++ [x]) = if peakOf pre < x then x else peakOf pre := by unfold peakOf; rw [List.foldl_append]; rfl
theorem ride_stops (n : Nat) (hn : 1 ≤ n) (Bn Bm : Nat) (N m : Int) (hN0 : 0 ≤ N) (hN1 : N ≤ 63000) (hm1 : 1 ≤ m) (hm : m ≤ 20) (w : World) (hBn : Bn < w.heap.size) (hBmlt : Bm < w.heap.size)
    (hc : w.cell? ⟨Bn, 0, none⟩ = some (.int .i64 N)) (hBm : w.heap[Bm]? = some (.cells #[.int .i64 m] 3 (0, 0))) :
    SeqStopsK Fence.wide n Try.prog 165 #[.pointer (some ⟨Bn, 0, none⟩), .pointer (some ⟨Bm, 0, none⟩)] (fun x : Int => #[Value.int .i64 x]) (fun A B => B.heap[Bm]? = A.heap[Bm]?) (fun ys => ys = rideL m N.toNat 0 N) (fun pre => pre <+: rideL m N.toNat 0 N) (rideL m N.toNat 0 N).length w :=
  fun l J Jx W hW _ _ hY h0 => ride1_in n hn l Bn Bm N m hN0 hN1 hm1 hm J Jx hY W ((hW.cell (p := ⟨Bn, 0, none⟩) hBn).trans hc) ((hW.block Bm hBmlt).trans hBm) h0
set_option maxRecDepth 100000 in
set_option maxHeartbeats 4000000 in
theorem travel_in (n : Nat) (hn : 3 ≤ n) (N m : Int) (hN0 : 0 ≤ N) (hN1 : N ≤ 63000) (hm1 : 1 ≤ m) (hm : m ≤ 20) (w : World) :
    CallsIn Fence.wide n Try.prog 107 #[.int .i64 N, .int .i64 m] w fun e W' => e = .returned (.tuple #[.int .i64 (tickOf (rideL m N.toNat 0 N)), .int .i64 (peakOf (rideL m N.toNat 0 N))]) ∧ Below w.heap.size w W' := by
  have h1 : 1 ≤ n := by omega
  have hlen := rideL_len m N.toNat 0 N
  refine callsIn_of_wp_marks Try.func107 rfl trivial ?_ rfl
  simp only [Try.ntmps107, List.size_toArray, List.length_cons, List.length_nil, Nat.reduceAdd, Nat.reduceSub, Array.replicate_succ, Array.replicate_zero, List.push_toArray, List.append_toArray, List.nil_append, List.cons_append]
  gi_wp2_with (refine ⟨trivial, ?_⟩; gi_at_call 139; refine (ride_in (n - 1) _ _ _).mono ?_; rintro e w' ⟨rfl, rfl⟩)
  obtain ⟨W0, hW0⟩ : ∃ W0, (((w.alloc (.cells #[.int .i64 0] 3)).alloc (.cells #[.int .i64 0] 3)).alloc (.cells #[.int .i64 N] 3)).alloc (.cells #[.int .i64 m] 3) = W0 := ⟨_, rfl⟩
  have hB0 : Below w.heap.size w W0 := by
    rw [← hW0]
    exact ((((Below.refl _ w).alloc (Nat.le_refl _) _).alloc (by simp) _).alloc (by simp; omega) _).alloc (by simp; omega) _
  have hsz : W0.heap.size = w.heap.size + 4 := by rw [← hW0]; simp
  have b0 : Boxed W0 w.heap.size 3 (.int .i64 0) := by
    rw [← hW0]
    exact ((Boxed.new w 3 (.int .i64 0)).alloc _).alloc _ |>.alloc _
  have b1 : Boxed W0 (w.heap.size + 1) 3 (.int .i64 0) := by
    rw [← hW0]
    have h := Boxed.new (w.alloc (.cells #[.int .i64 0] 3)) 3 (.int .i64 0)
    rw [World.size_alloc] at h
    exact (h.alloc _).alloc _
  have b2 : Boxed W0 (w.heap.size + 1 + 1) 3 (.int .i64 N) := by
    rw [← hW0]
    have h := Boxed.new ((w.alloc (.cells #[.int .i64 0] 3)).alloc (.cells #[.int .i64 0] 3)) 3 (.int .i64 N)
    rw [World.size_alloc, World.size_alloc] at h
    exact h.alloc _
  have b3 : Boxed W0 (w.heap.size + 1 + 1 + 1) 3 (.int .i64 m) := by
    rw [← hW0]
    have h := Boxed.new (((w.alloc (.cells #[.int .i64 0] 3)).alloc (.cells #[.int .i64 0] 3)).alloc (.cells #[.int .i64 N] 3)) 3 (.int .i64 m)
    rw [World.size_alloc, World.size_alloc, World.size_alloc] at h
    exact h
  rw [hW0]
  clear hW0
  refine wpIn_rangeFunc_ownF rfl h1 (gf := 165) (lb := #[.pointer (some ⟨w.heap.size + 1 + 1, 0, none⟩), .pointer (some ⟨w.heap.size + 1 + 1 + 1, 0, none⟩)]) rfl trivial (enters_of Try.func165 (by kernel_rfl) rfl)
    (ride_stops (n - 1) (by omega) (w.heap.size + 1 + 1) (w.heap.size + 1 + 1 + 1) N m hN0 hN1 hm1 hm W0 (by omega) (by omega) b2.cell b3) (fun h k => k.trans h)
    (fun W l o o' hl _ _ _ => World.putObj_heap_other (by omega)) (Below.refl _ _) (fun _ => rfl)
    (fun pre W => Boxed W w.heap.size 3 (.int .i64 (tickOf pre)) ∧ Boxed W (w.heap.size + 1) 3 (.int .i64 (peakOf pre)) ∧ Below w.heap.size w W)
    (fun _ _ _ => False)
    (OwnFrom.and ((boxed_own _ _ _).from _) (OwnFrom.and ((boxed_own _ _ _).from _) (ownFrom_below (Nat.le_refl _) (by omega))))
    (fun _ _ _ _ _ hs _ _ => hs)
    ⟨b0, b1, hB0⟩
    (fun x => { tmps := #[.int .i64 N, .int .i64 m, undef, undef, .pointer (some ⟨w.heap.size, 0, none⟩), .pointer (some ⟨w.heap.size + 1, 0, none⟩), .int .i64 x, .int .i64 N, .int .i64 m, .func (.func 165) #[] #[.pointer (some ⟨w.heap.size + 1 + 1, 0, none⟩), .pointer (some ⟨w.heap.size + 1 + 1 + 1, 0, none⟩)], .int .i64 x, undef, undef, undef, undef, undef, undef, undef], defers := [] }) ?assign ?body ?done ?stop
  case assign =>
    intro l x W K hK
    gi_wp2
    exact hK
  case body =>
    rintro l pre x W ⟨c0, c1, hB⟩ hpre
    have k0 : (0 : Int) ≤ tickOf pre := by unfold tickOf; omega
    have k1 : tickOf pre ≤ 63000 := by unfold tickOf; omega
    have d0 := c0.cell
    have f0 := c0.frozen
    have d1 := c1.cell
    have f1 := c1.frozen
    have n0 : w.heap.size ≠ w.heap.size + 1 := by omega
    gi_wp2
    · have hx : peakOf pre < x := by assumption
      refine ⟨(KeepsOthers.setCell _ _ _).trans (KeepsOthers.setCell _ _ _), (Below.heap_setCell _ _ _ _ (by simp; omega)).trans (Below.heap_setCell _ _ _ _ (by simp; omega)), ?_, ?_, ?_⟩
      · rw [tick_snoc]; exact (c0.set _).other (by omega) _
      · rw [peak_snoc, if_pos hx]; exact (c1.other (by omega) _).set _
      · exact (hB.setCell (p := ⟨w.heap.size, 0, none⟩) (Nat.le_refl _) _).setCell (p := ⟨w.heap.size + 1, 0, none⟩) (by simp) _
    · have hx : ¬ peakOf pre < x := by first | assumption | omega
      refine ⟨(KeepsOthers.setCell _ _ _).trans (KeepsOthers.setCell _ _ _), (Below.heap_setCell _ _ _ _ (by simp; omega)).trans (Below.heap_setCell _ _ _ _ (by simp; omega)), ?_, ?_, ?_⟩
      · rw [tick_snoc]; exact (c0.set _).other (by omega) _
      · rw [peak_snoc, if_neg hx]; exact (c1.other (by omega) _).set _
      · exact (hB.setCell (p := ⟨w.heap.size, 0, none⟩) (Nat.le_refl _) _).setCell (p := ⟨w.heap.size + 1, 0, none⟩) (by simp) _
  case done =>
    rintro D ys W hD rfl ⟨c0, c1, hB⟩ hK
    have d0 := c0.cell
    have f0 := c0.frozen
    have d1 := c1.cell
    have f1 := c1.frozen
    gi_wp2
    gi_region
    gi_wp2
    obtain ⟨W2, hW2⟩ : ∃ W2, ((W.setCell ⟨w.heap.size, 0, none⟩ (.int .i64 (tickOf (rideL m N.toNat 0 N)))).setCell ⟨w.heap.size + 1, 0, none⟩ (.int .i64 (peakOf (rideL m N.toNat 0 N)))).drew = W2 := ⟨_, rfl⟩
    have e0 : Boxed W2 w.heap.size 3 (.int .i64 (tickOf (rideL m N.toNat 0 N))) := by rw [← hW2]; exact (c0.set _).other (by omega) _
    have e1 : Boxed W2 (w.heap.size + 1) 3 (.int .i64 (peakOf (rideL m N.toNat 0 N))) := by rw [← hW2]; exact (c1.other (by omega) _).set _
    have hB2 : Below w.heap.size w W2 := by rw [← hW2]; exact ((hB.setCell (p := ⟨w.heap.size, 0, none⟩) (Nat.le_refl _) _).setCell (p := ⟨w.heap.size + 1, 0, none⟩) (by simp) _).drew
    have hK2 : W2.heap[D]? = some (.deferred (some [])) := by
      rw [← hW2]
      exact (KeepsOthers.setCell (W.setCell ⟨w.heap.size, 0, none⟩ (.int .i64 (tickOf (rideL m N.toNat 0 N)))) ⟨w.heap.size + 1, 0, none⟩ (.int .i64 (peakOf (rideL m N.toNat 0 N)))).same D _ ((KeepsOthers.setCell W ⟨w.heap.size, 0, none⟩ (.int .i64 (tickOf (rideL m N.toNat 0 N)))).same D _ hK rfl) rfl
    rw [hW2]
    clear hW2
    refine ⟨by simp, .inl ⟨_, _, rfl, run_takeDeferred hK2, ?_⟩⟩
    have k0 := cell_kept e0.cell (grownBy_putObj' W2 D (.deferred none)) (fun r e => by cases e; exact ⟨_, hK2, rfl⟩)
    have k1 := cell_kept e1.cell (grownBy_putObj' W2 D (.deferred none)) (fun r e => by cases e; exact ⟨_, hK2, rfl⟩)
    refine ⟨.tuple #[.int .i64 (tickOf (rideL m N.toNat 0 N)), .int .i64 (peakOf (rideL m N.toNat 0 N))], ?_, rfl, hB2.trans (belowK_b (w := w) (Nat.le_refl _) W2 D _ _ (by omega) hK2 rfl rfl)⟩
    simp [results, Try.f107, go_sem, k0, k1]
  case stop =>
    rintro D c pre W _ _ h _
    exact h.elim
end
def profile_travel.f (a0 : Int) (a1 : Int) : Option (Int × Int) := if 0 ≤ a0 ∧ a0 ≤ 63000 ∧ 1 ≤ a1 ∧ a1 ≤ 20 then some (tickOf (rideL a1 a0.toNat 0 a0), peakOf (rideL a1 a0.toNat 0 a0)) else none
theorem profile_travel.calls (a0 : Int) (a1 : Int) (r1 : Int) (r2 : Int) (w : World) (h : profile_travel.f a0 a1 = some (r1, r2)) :
    Calls Try.prog 107 #[.int .i64 a0, .int .i64 a1] w fun e w' => e = .returned (.tuple #[.int .i64 r1, .int .i64 r2]) ∧ Below w.heap.size w w' := by
  unfold profile_travel.f at h
  split at h
  · obtain ⟨rfl, rfl⟩ := Prod.mk.inj (Option.some.inj h)
    rename_i hc
    exact callsIn_wide.1 (travel_in 3 (Nat.le_refl _) a0 a1 hc.1 hc.2.1 hc.2.2.1 hc.2.2.2 w)
  · cases h
end Go.Proofs.Ytdhlbfhfenomcaa.PS
