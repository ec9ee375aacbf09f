/- shaft.Positions, told by hand: what it answers, and that the Go code comes to it. -/
import Derived.Test.YtdhlbfhfenomcaaProg
import Derived.Below
import Derived.Deep.Draws
import Derived.Deep.AppendLies
import Derived.Maps.AppendAt
import Derived.OwnWalk
import Derived.Laws.BytesArg
import Derived.Laws.MakeOwn
import Derived.Laws.OwnMore
import Derived.Deep.OwnRows
import Derived.Tactics
import Derived.Lib.ConvBytes
import Derived.Laws.Slices
import Derived.WalkKit
import Derived.KernelRfl
import Derived.RowKit3
import Derived.Deep.LoopGhost
import Derived.Deep.QuietTactic
import Derived.BigQuiet
import Derived.WideLaws
import Derived.Deep.DeepCutAuto
import Derived.Deep.CutBlock
import Derived.Deep.RegionHeld3
import Derived.Laws.Rows
import Derived.Lib.AppendStr
import Derived.ArgAppend
import Derived.Laws.IdiomCopy
import Derived.OrdersHeld
import Derived.Laws.BitsLemmas
import Derived.RowKit
import Derived.Test.YtdhlbfhfenomcaaMw
import Derived.Test.YtdhlbfhfenomcaaHShaftCheck
import Derived.RangeFuncBox
import Derived.ArgAppend
import Derived.Laws.OwnMore
namespace Go.Proofs.Ytdhlbfhfenomcaa.PS
open Go.RowKit Go.Proofs.YtdhlbfhfenomcaaW.PrintWords Go.Proofs.YtdhlbfhfenomcaaW.PrintLast Go.Proofs.YtdhlbfhfenomcaaW.PrintMore
attribute [local go_sem] max2_int min2_int max_two min_two max_three min_three max_four min_four
set_option linter.unusedVariables false
set_option linter.unusedSimpArgs false
/-- The sums of the gaps, from a position on. -/
def posFrom : Int → List Int → List Int
  | a, [] => [a]
  | a, g :: r => a :: posFrom (a + g) r
def posL (l : List Int) : List Int := posFrom 0 l
theorem posFrom_len : ∀ (l : List Int) (a : Int), (posFrom a l).length = l.length + 1
  | [], _ => rfl
  | g :: r, a => by simp [posFrom, posFrom_len r]
theorem firstIdx_none (p : Int → Bool) : ∀ (l : List Int) (i : Nat), firstIdx p l i < 0 → ∀ x ∈ l, p x = false
  | [], _, _ => by simp
  | y :: r, i, h => by
    intro x hx
    unfold firstIdx at h
    split at h
    · omega
    · rename_i hy
      rcases List.mem_cons.1 hx with rfl | hx
      · simpa using hy
      · exact firstIdx_none p r (i + 1) h x hx
theorem posFrom_get : ∀ (l : List Int) (a : Int) (k : Nat), k ≤ l.length → (posFrom a l)[k]? = some (a + (l.take k).foldl (· + ·) 0)
  | [], a, k, h => by
    obtain rfl : k = 0 := by simpa using h
    simp [posFrom]
  | g :: r, a, 0, _ => by simp [posFrom]
  | g :: r, a, k + 1, h => by
    have e := posFrom_get r (a + g) k (by simpa using h)
    have hf : ∀ (l : List Int) (x y : Int), l.foldl (· + ·) (x + y) = x + l.foldl (· + ·) y := by
      intro l
      induction l with
      | nil => intro x y; rfl
      | cons z r ih => intro x y; simp only [List.foldl_cons]; rw [show x + y + z = x + (y + z) from by omega, ih]
    simp only [posFrom, List.getElem?_cons_succ, e, List.take_succ_cons, List.foldl_cons]
    rw [show (0 : Int) + g = g + 0 from by omega, hf]
    simp; omega
theorem posFrom_bd : ∀ (l : List Int) (a : Int) (k : Nat), (∀ x ∈ l, gapB x = false) → k ≤ l.length → a ≤ a + (l.take k).foldl (· + ·) 0 ∧ a + (l.take k).foldl (· + ·) 0 ≤ a + 1000 * k := by
  intro l
  induction l with
  | nil => intro a k _ h; obtain rfl : k = 0 := by simpa using h
           simp
  | cons g r ih =>
    intro a k hx h
    have hf : ∀ (l : List Int) (x y : Int), l.foldl (· + ·) (x + y) = x + l.foldl (· + ·) y := by
      intro l
      induction l with
      | nil => intro x y; rfl
      | cons z r ih => intro x y; simp only [List.foldl_cons]; rw [show x + y + z = x + (y + z) from by omega, ih]
    cases k with
    | zero => simp
    | succ k =>
      have hg : gapB g = false := hx g (by simp)
      simp [gapB] at hg
      have e := ih a k (fun x h => hx x (by simp [h])) (by simpa using h)
      simp only [List.take_succ_cons, List.foldl_cons]
      rw [show (0 : Int) + g = g + 0 from by omega, hf]
      omega
def shaft_Positions.f (l0 : List Int) : Option (List Int × Int) := (shaft_Check.f l0).bind fun b => if b.1 = 0 then some (posL l0, 0) else some ([], b.1)
theorem climb_calls (b : Nat) (x a : Int) (w : World) (hb : w.heap[b]? = some (.cells #[.int .i64 a] 3 (0, 0))) (h0 : 0 ≤ a) (h1 : a ≤ 100000) (h2 : 0 ≤ x) (h3 : x ≤ 100000) :
    Calls Try.prog 103 #[.int .i64 x, .pointer (some ⟨b, 0, none⟩)] w fun e w' => e = .returned (.int .i64 (a + x)) ∧ Mw.Wrote w b (.cells #[.int .i64 (a + x)] 3 (0, 0)) w' := by
  have hc : w.cell? ⟨b, 0, none⟩ = some (.int .i64 a) := (blk_cell hb 0).trans rfl
  have hf := blk_frozen hb 0
  have HB := Aside0.mk hb
  clear hb
  go_enter Try.func103, Try.ntmps103
  go_wp2
  go_ret
  refine ⟨rfl, blk_put HB.out 0 _ rfl, by simp [World.setCell], grownBy_setCell' _ _ _⟩
def sumK (l : List Int) (j : Nat) : Int := 0 + (l.take j).foldl (· + ·) 0
def posK (l : List Int) (j : Nat) : List Int := (posL l).take (j + 1) ++ l.drop j
theorem sumK_succ (l : List Int) (j : Nat) (h : j < l.length) : sumK l j + rd l j = sumK l (j + 1) := by
  have e : rd l (j : Int) = l[j] := by simp [rd, List.getD_eq_getElem?_getD, h]
  have hf : ∀ (l : List Int) (x y : Int), l.foldl (· + ·) (x + y) = x + l.foldl (· + ·) y := by
    intro l
    induction l with
    | nil => intro x y; rfl
    | cons z r ih => intro x y; simp only [List.foldl_cons]; rw [show x + y + z = x + (y + z) from by omega, ih]
  unfold sumK
  rw [List.take_succ_eq_append_getElem h, List.foldl_append, e]
  simp
theorem posK_get (l : List Int) (j : Nat) (h : j < l.length) : (posK l j)[j + 1]? = some (rd l j) := by
  have e : rd l (j : Int) = l[j] := by simp [rd, List.getD_eq_getElem?_getD, h]
  have hl : ((posL l).take (j + 1)).length = j + 1 := by rw [List.length_take, posL, posFrom_len]; omega
  unfold posK
  rw [List.getElem?_append_right (by omega), hl, e, List.drop_eq_getElem_cons h]
  simp
theorem posK_set (l : List Int) (j : Nat) (h : j < l.length) : (posK l j).set (j + 1) (sumK l (j + 1)) = posK l (j + 1) := by
  have hl : ((posL l).take (j + 1)).length = j + 1 := by rw [List.length_take, posL, posFrom_len]; omega
  have hp : (posL l)[j + 1]? = some (sumK l (j + 1)) := posFrom_get l 0 (j + 1) (by omega)
  have hlt : j + 1 < (posL l).length := by rw [posL, posFrom_len]; omega
  unfold posK
  rw [List.set_append_right _ _ (by omega), hl, List.drop_eq_getElem_cons h, Nat.sub_self, List.set_cons_zero, List.take_succ_eq_append_getElem hlt]
  rw [List.getElem?_eq_getElem hlt] at hp
  rw [Option.some.inj hp]
  simp
theorem own_wrote {w w' : World} {base g b n cap : Nat} {e : TypeId} {o : Obj} {xs : List Value} (h : w.ownsRow base e 1 (.slice (some ⟨g, 0, none⟩) n cap) n xs) (hw : Mw.Wrote w b o w') (hne : g ≠ b) : w'.ownsRow base e 1 (.slice (some ⟨g, 0, none⟩) n cap) n xs :=
  own_move h (fun k hk => by
    have : g = k := by simpa [Value.ownBlock] using hk
    subst this
    have hlt : g < w.heap.size := by
      rcases h.2 with ⟨h', _⟩ | ⟨g', cap', cur, h', _, hh, _⟩
      · cases h'
      · cases h'; exact blk_lt hh
    exact hw.grown.block g hlt (by simpa using hne))
theorem own_lower {w : World} {base base' n : Nat} {e : TypeId} {v : Value} {xs : List Value} (hb : base' ≤ base) (h : w.ownsRow base e 1 v n xs) : w.ownsRow base' e 1 v n xs := by
  obtain ⟨h1, h2⟩ := h
  refine ⟨h1, ?_⟩
  rcases h2 with h2 | ⟨g, cap, cur, rfl, hg, r⟩
  · exact .inl h2
  · exact .inr ⟨g, cap, cur, rfl, Nat.le_trans hb hg, r⟩
theorem posInfo : (Try.prog.info? 3).map (fun i => (i.zero, i.size, i.bytes)) = some (some (.int .i64 0), 1, 8) := by kernel_rfl
theorem one_cell_at (w : World) (o : Obj) : ∀ b, some (⟨w.heap.size + 1, 0, none⟩ : Addr) = some b → ∀ j u, ([.int .i64 0] : List Value)[j]? = some u → ((w.alloc o).alloc (.cells #[.int .i64 0] 174)).cell? (b.add j) = some u := by
  intro b hb j u hj
  cases hb
  match j, hj with
  | 0, hj =>
    simp at hj
    subst hj
    have h := blk_new (w.alloc o) (.cells #[.int .i64 0] 174)
    rw [World.size_alloc] at h
    exact (blk_cell h 0).trans rfl
set_option maxHeartbeats 4000000 in
theorem shaft_Positions.calls (A0 : Option Addr) (c0 : Nat) (l0 : List Int) (r1 : List Int) (r2 : Int) (w : World) (hr0 : Kd.C (Kd.int .i64) w A0 l0.length l0) (hc0 : l0.length ≤ c0) (h : shaft_Positions.f l0 = some (r1, r2)) :
    Calls Try.prog 63 #[.slice A0 l0.length c0] w fun e w' => ∃ v0_ : Value, e = .returned (.tuple #[v0_, .int .i64 r2]) ∧ Kd.R (Kd.int .i64) 3 w' w.heap.size (fun _ => True) v0_ r1 ∧ Below w.heap.size w w' := by
  unfold shaft_Positions.f at h
  obtain ⟨⟨e1, i1⟩, hC, h⟩ := Option.bind_eq_some_iff.mp h
  replace h : (if e1 = 0 then some (posL l0, 0) else some ([], e1)) = some (r1, r2) := h
  have HR := Aside0.mk hr0
  have HC := Aside0.mk hC
  have HL := Aside0.mk hc0
  have hm := Kd.C_max hr0
  clear hr0 hC hc0
  by_cases he : e1 = 0
  · rw [if_pos he] at h
    obtain ⟨rfl, rfl⟩ := Prod.mk.inj (Option.some.inj h)
    have hb1 : (e1 != 0) = false := by simp [he]
    have HE := Aside0.mk he
    clear h he
    -- what the check has told
    have HX : Aside0 (1 ≤ l0.length ∧ l0.length ≤ 63 ∧ ∀ x ∈ l0, gapB x = false) := by
      have hC := HC.out
      rw [HE.out] at hC
      unfold shaft_Check.f at hC
      replace hC := Option.some.inj hC
      split at hC
      · simp at hC
      · split at hC
        · simp at hC
        · split at hC
          · rename_i a b c
            exact ⟨by omega, by omega, firstIdx_none _ _ _ c⟩
          · simp at hC
    obtain ⟨ad, rfl, _⟩ := Mw.C_int_cells HR.out (by have := HX.out.1; omega)
    have hl1 : 1 ≤ l0.length := HX.out.1
    have hl2 : l0.length ≤ 63 := HX.out.2.1
    obtain ⟨i0, hi, hz0, hz1, hz2⟩ := info_parts posInfo
    have HI := Aside0.mk (And.intro hi (And.intro hz0 (And.intro hz1 hz2)))
    clear hi hz0 hz1 hz2
    go_enter Try.func63, Try.ntmps63
    go_wp2_with (first
      | (go_at_call 102; refine (shaft_Check.calls _ _ _ _ _ _ HR.out HL.out HC.out).mono ?_; rintro e w1 ⟨rfl, hb⟩; have HB := Aside0.mk hb; clear hb)
      | (at_builtin; refine wpList_append_grows _ rfl (.tmp 21) (.tmp 22) 22 rfl 3 i0 (.int .i64 0) 1 8 Try.underlying22 HI.out.1 HI.out.2.1 HI.out.2.2.1 HI.out.2.2.2 rfl (by decide) (some ⟨w1.heap.size + 1, 0, none⟩) 1 1 [.int .i64 0] rfl (fun h => by cases h) rfl (one_cell_at w1 _) ad l0.length c0 (l0.map (.int .i64)) rfl (by simp) (Mw.C_int_cells' (Kd.C_alloc (Kd.C_alloc (Kd.C_below HR.out HB.out) _) _) (by omega)) (Mw.one_ints _ _) (by omega) (by unfold maxLen; omega) (by omega) ?_; intro v w2 hown hg; have HO := Aside0.mk hown; have HG := Aside0.mk hg; clear hown hg))
    obtain ⟨g, cap, rfl, hg1, hg2⟩ := HO.out.form (by omega)
    have hgb : w1.heap.size + 2 ≤ g := by simpa using hg1
    have HBk := Aside0.mk (blk_grown (blk_alloc (blk_new w1 (.cells #[.int .i64 0] 3)) (.cells #[.int .i64 0] 174)) HG.out (by simp))
    have HB2 := Aside0.mk ((below_alloc (below_alloc HB.out (.cells #[.int .i64 0] 3)) (.cells #[.int .i64 0] 174)).grown HG.out (below_alloc (below_alloc HB.out _) _).size (by simp))
    have hws : w.heap.size ≤ w1.heap.size := HB.out.size
    clear hg1 hg2 HB HG
    have HO0 := Aside0.mk (show w2.ownsRow (w1.heap.size + 1 + 1) 3 1 (.slice (some ⟨g, 0, none⟩) (1 + l0.length) cap) (1 + l0.length) ((posK l0 0).map (.int .i64)) from by
      have h := HO.out
      simp only [World.size_alloc] at h
      have e : (posK l0 0).map (.int .i64) = [.int .i64 0] ++ l0.map (Value.int .i64) := by
        have : (posL l0).take 1 = [0] := by cases l0 <;> simp [posL, posFrom]
        simp [posK, this]
      rw [e]
      exact h)
    clear HO
    go_loopw [10] (fun i wr => ∃ j : Nat, j ≤ l0.length ∧ i = .int .i64 (j + 1) ∧ Aside0 (wr.heap[w1.heap.size]? = some (.cells #[.int .i64 (sumK l0 j)] 3 (0, 0))) ∧ Aside0 (wr.ownsRow (w1.heap.size + 1 + 1) 3 1 (.slice (some ⟨g, 0, none⟩) (1 + l0.length) cap) (1 + l0.length) ((posK l0 j).map (.int .i64))) ∧ Aside0 (Below w.heap.size w wr)) (fun i _ => l0.length + 1 - (intOf i).toNat)
    case atStart => exact ⟨0, Nat.zero_le _, rfl, HBk, HO0, HB2⟩
    case round =>
      clear HBk HO0 HB2
      obtain ⟨j, hj, rfl, HBk, HO, HB⟩ := hrel
      by_cases hlt : j < l0.length
      · have hcell : wr.cell? ⟨g, j + 1, none⟩ = some (.int .i64 (rd l0 j)) := by
          rw [HO.out.cellAt (j + 1) (by omega), List.getElem?_map, posK_get l0 j hlt]; rfl
        have hbd := posFrom_bd l0 0 j HX.out.2.2 hj
        have hgx : gapB (rd l0 j) = false := HX.out.2.2 _ (by rw [show rd l0 (j : Int) = l0[j] from by simp [rd, List.getD_eq_getElem?_getD, hlt]]; exact List.getElem_mem hlt)
        have s0 : 0 ≤ sumK l0 j := by unfold sumK; omega
        have s1 : sumK l0 j ≤ 100000 := by unfold sumK; omega
        have g0 : 0 ≤ rd l0 j := by simp [gapB] at hgx; omega
        have g1 : rd l0 j ≤ 100000 := by simp [gapB] at hgx; omega
        clear hbd hgx
        go_wp2_with (go_at_call 103; refine (climb_calls _ _ _ _ HBk.out s0 s1 g0 g1).mono ?_; rintro e w3 ⟨rfl, hw⟩; have HW := Aside0.mk hw; clear hw; have HO3 := Aside0.mk (own_wrote HO.out HW.out (by omega)); have hf3 := HO3.out.frozenAt (j + 1); obtain ⟨u3, hc3⟩ : ∃ u, w3.cell? ⟨g, j + 1, none⟩ = some u := ⟨_, (HO3.out.cellAt (j + 1) (by omega)).trans (by rw [List.getElem?_map, posK_get l0 j hlt]; rfl)⟩)
        go_roundw
        case rel =>
          have hst := HO3.out.stored (j + 1) (.int .i64 (sumK l0 (j + 1)))
          refine ⟨j + 1, by omega, by go_num, ?_, ?_, ?_⟩
          · rw [← sumK_succ l0 j hlt]
            exact ⟨blk_far HW.out.new (by simp; omega) _⟩
          · rw [sumK_succ l0 j hlt, ← posK_set l0 j hlt, List.map_set]
            exact ⟨hst.1⟩
          · exact ⟨(HB.out.grown HW.out.grown HB.out.size (fun k e => by cases e; omega)).setCell (p := ⟨g, j + 1, none⟩) (by simp; omega) _⟩
        case measure => simp [intOf]; omega
      · have e : j = l0.length := by omega
        subst e
        go_wp2
        go_ret2
        refine ⟨_, rfl, Kd.R_of_own ?_ (fun _ _ => trivial), HB.out⟩
        have e2 : posK l0 l0.length = posL l0 := by
          unfold posK
          rw [List.drop_length, List.append_nil, List.take_of_length_le]
          rw [posL, posFrom_len]; exact Nat.le_refl _
        have h := HO.out
        rw [e2] at h
        have e3 : (posL l0).length = 1 + l0.length := by rw [posL, posFrom_len]; omega
        rw [e3]
        exact own_lower (by omega) h
  · rw [if_neg he] at h
    obtain ⟨rfl, rfl⟩ := Prod.mk.inj (Option.some.inj h)
    have hb1 : (e1 != 0) = true := by simp [he]
    clear h he
    go_enter Try.func63, Try.ntmps63
    go_wp2_with (go_at_call 102; refine (shaft_Check.calls _ _ _ _ _ _ HR.out HL.out HC.out).mono ?_; rintro e w1 ⟨rfl, hb⟩; have HB := Aside0.mk hb; clear hb)
    go_ret2
    exact ⟨_, rfl, Kd.R_nil _ _ _ _ _, HB.out⟩
end Go.Proofs.Ytdhlbfhfenomcaa.PS
