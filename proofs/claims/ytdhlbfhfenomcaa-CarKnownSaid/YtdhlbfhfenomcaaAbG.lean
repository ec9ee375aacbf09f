/- Contracts told by hand, in the table's form: profile.next, profile.travel, shaft.Positions. -/
import Derived.Test.YtdhlbfhfenomcaaAb16
import Derived.Test.YtdhlbfhfenomcaaHProfileTravel
import Derived.Test.YtdhlbfhfenomcaaHShaftPositions
namespace Go.Proofs.Ytdhlbfhfenomcaa.Ab
open Go Go.RowKit Go.Proofs.YtdhlbfhfenomcaaW.PrintWords Go.Proofs.YtdhlbfhfenomcaaW.PrintLast Go.Proofs.YtdhlbfhfenomcaaW.PrintMore
set_option linter.unusedVariables false
set_option linter.unusedSimpArgs false

/-- Whatever lies in blocks from B on is known as it stands. -/
def newK (B : Nat) (K : Ks) (w : World) : Ks := fun cb o => if cb < B then K cb o else KW w cb o
theorem newK_kn (B : Nat) (K : Ks) (w : World) : KN B K (newK B K w) := fun cb o v h => by
  unfold newK at h
  split at h
  · exact .inl h
  · exact .inr (by omega)
section
variable {K : Ks} {w w' : World}
theorem newK_ext (r : Rel w.heap.size (fun _ => none) K [] w) : ∀ b o v, K b o = some v → newK w.heap.size K w' b o = some v := fun b o v h => by
  unfold newK
  rw [if_pos (World.block_lt_of_cell? w _ (r.stab b o v h).1)]; exact h
theorem newK_rel (r : Rel w.heap.size (fun _ => none) K [] w) (hb : Below w.heap.size w w') : Rel w.heap.size (fun _ => none) (newK w.heap.size K w') [] w' := by
  refine ⟨hb.size, fun _ _ => rfl, fun i b g hb => by (cases hb), fun i b hb => by (cases hb), fun i b g hb => by (cases hb), fun i j b c g k hb => by (cases hb), fun cb o v hv => ?_, fun cb o v hv => ⟨?_, fun i b g hb => by (cases hb)⟩⟩
  · unfold newK at hv
    split at hv
    · exact r.one cb o v hv
    · exact (KW_iff.1 hv).2
  · unfold newK at hv
    split at hv
    · rename_i hlt
      rw [← (r.stab cb o v hv).1]
      exact World.cell?_of_block (w := w) (hb.block cb hlt)
    · exact (KW_iff.1 hv).1
/-- A contract's end. -/
theorem exits_new (r : Rel w.heap.size (fun _ => none) K [] w) (hb : Below w.heap.size w w') {v : AV} {y : AV × Bool} {cv : Value} (he : export1 v [] = some y) (hd : Den (newK w.heap.size K w') (fun _ => none) v cv) :
    Exits w.heap.size (fun _ => none) K w 0 (fun v h => export1 v h) y (.returned cv) w' :=
  ⟨v, [], fun _ => none, newK w.heap.size K w', cv, rfl, he, ⟨fun _ _ h => h, newK_ext r⟩, newK_kn _ _ _, newK_rel r hb, hb, hd, Nat.zero_le _, Keep.refl _ _⟩
end

def intOfA : AV → Int
  | .int _ x => x
  | _ => 0
def intsOf (n : Nat) (f : Nat → AV) : List Int := (List.range n).map fun i => intOfA (f i)
def isI64 : AV → Bool
  | .int .i64 _ => true
  | _ => false
def okInts (n : Nat) (f : Nat → AV) : Bool := (List.range n).all fun i => isI64 (f i)
def rowI (l : List Int) : AV := .ros false l.length fun i => .int .i64 (l.getD i 0)
theorem okInts_get {n : Nat} {f : Nat → AV} (h : okInts n f = true) {i : Nat} (hi : i < n) : f i = .int .i64 ((intsOf n f).getD i 0) := by
  unfold okInts at h
  rw [List.all_eq_true] at h
  have h1 := h i (List.mem_range.2 hi)
  have h2 : (intsOf n f).getD i 0 = intOfA (f i) := by unfold intsOf; simp [hi]
  rw [h2]
  unfold isI64 at h1
  split at h1
  · rename_i x hx; rw [hx]; rfl
  · cases h1
theorem intsOf_len (n : Nat) (f : Nat → AV) : (intsOf n f).length = n := by simp [intsOf]
/-- A row of whole numbers, as the print reads it. -/
theorem ints_in {B : Nat} {φ : Ph} {K : Ks} {h : List Blk} {w : World} (hr : Rel B φ K h w) {a : AV} {cv : Value} (hd : Den K φ a cv) {n : Nat} {f : Nat → AV} (e : rowOf a = some (n, f)) (ho : okInts n f = true) (hn : n ≤ 9223372036854775807) :
    ∃ A cap, cv = .slice A (intsOf n f).length cap ∧ Kd.C (Kd.int .i64) w A (intsOf n f).length (intsOf n f) ∧ (intsOf n f).length ≤ cap := by
  obtain ⟨A, cap, rfl, hcap, hcell⟩ := rowOf_den hd e
  rw [intsOf_len]
  refine ⟨A, cap, rfl, ⟨intsOf_len n f, hn, fun hpos => ?_⟩, hcap⟩
  rcases hcell with h0 | ⟨cb, o, esz, cvf, rfl, c1, c2, c3⟩
  · omega
  · refine ⟨_, rfl, fun j p hp => ?_⟩
    have hj : j < n := by rw [← intsOf_len n f]; exact (List.getElem?_eq_some_iff.1 hp).1
    have hfj := okInts_get ho hj
    have hpd : (intsOf n f).getD j 0 = p := by rw [List.getD_eq_getElem?_getD, hp]; rfl
    rw [hpd] at hfj
    have hesz : esz = 1 := by rw [← c1 j hj, hfj]; rfl
    subst hesz
    have hu : (cellsOf (f j))[0]? = some (.int .i64 p) := by rw [hfj]; rfl
    have h1 := c2 j 0 _ hj hu
    have h2 := c3 j 0 _ hj hu
    generalize hcv : cvf j 0 = cv at h1 h2
    cases h2
    refine ⟨[.int .i64 p], rfl, rfl, fun i u hu => ?_⟩
    have hi : i = 0 := by
      rcases i with _ | i
      · rfl
      · simp at hu
    subst hi
    have : u = .int .i64 p := by simpa using hu.symm
    subst this
    have := (hr.stab _ _ _ h1).1
    rw [Addr.add_mid]
    have e2 : (Kd.int IntKind.i64).sz = 1 := rfl
    simpa [e2] using this
/-- A row of whole numbers that the print tells. -/
theorem ints_out {w w' : World} {K : Ks} {ok : Nat → Prop} {v : Value} {l : List Int} (h : Kd.R (Kd.int .i64) 3 w' w.heap.size ok v l) : Den (newK w.heap.size K w') (fun _ => none) (rowI l) v := by
  obtain ⟨_, inner, hown, hreps⟩ := h
  have hsz : (Kd.int IntKind.i64).sz = 1 := rfl
  rw [hsz] at hown hreps
  rcases hown.2 with ⟨rfl, h0⟩ | ⟨g, cap, cur, rfl, hg, hh, hcap, _, hcur, htake⟩
  · unfold rowI; rw [h0]; exact .rosn ..
  · have hget : ∀ (j : Nat) (p : Int), l[j]? = some p → cur[j]? = some (Value.int .i64 p) := fun j p hp => by
      have h1 : (inner.drop (j * 1)).take 1 = [.int .i64 p] := hreps.2 j p hp
      have hj : j < l.length := (List.getElem?_eq_some_iff.1 hp).1
      have h2 : inner[j]? = some (.int .i64 p) := by
        have := congrArg (fun (x : List Value) => x[0]?) h1
        simpa using this
      rw [← htake, List.getElem?_take] at h2
      rw [if_pos (by omega)] at h2
      simpa using h2
    unfold rowI
    refine .ros _ false _ _ g 0 1 cap (fun j _ => .int .i64 (l.getD j 0)) hcap (fun h => by cases h) (fun _ _ => rfl) (fun j q u hj hu => ?_) (fun j q u hj hu => ?_)
    · have hq : q = 0 := by
        rcases q with _ | q
        · rfl
        · simp [cellsOf] at hu
      subst hq
      have h1 := hget j _ (List.getElem?_eq_getElem hj)
      have h2 : l.getD j 0 = l[j] := by simp [List.getD_eq_getElem?_getD, hj]
      unfold newK
      rw [if_neg (by omega)]
      refine KW_iff.2 ⟨?_, rfl⟩
      rw [cell_of_row w' g _ cur _ _ hh, h2]
      simpa using h1
    · have hq : q = 0 := by
        rcases q with _ | q
        · rfl
        · simp [cellsOf] at hu
      subst hq
      have : u = .int .i64 (l.getD j 0) := by simpa [cellsOf] using hu.symm
      subst this
      exact .int ..

/-- The speeds of a ride that follow one. -/
def gNext : List AV → Option (Bool × AV × Bool)
  | [.int .i64 s, .int .i64 n, .int .i64 m] => some (decide (0 ≤ s) && decide (s ≤ 20) && decide (1 ≤ m) && decide (m ≤ 20), .tup [.int .i64 ((PS.nxtV s n m).getD (s - 1)), .bool (PS.nxtV s n m).isSome], false)
  | _ => none
def gTravel : List AV → Option (Bool × AV × Bool)
  | [.int .i64 n, .int .i64 m] => some (decide (0 ≤ n) && decide (n ≤ 63000) && decide (1 ≤ m) && decide (m ≤ 20), .tup [.int .i64 (PS.tickOf (PS.rideL m n.toNat 0 n)), .int .i64 (PS.peakOf (PS.rideL m n.toNat 0 n))], false)
  | _ => none
theorem one_arg {K : Ks} {φ : Ph} {a : AV} {cas : Array Value} (h : DenL K φ [a] cas.toList) : ∃ v, cas = #[v] ∧ Den K φ a v := by
  obtain ⟨l⟩ := cas
  match l, h with
  | [v], h => exact ⟨v, rfl, h.2 0 a v rfl rfl⟩
  | [], h => exact absurd h.1 (by simp)
  | _ :: _ :: _, h => exact absurd h.1 (by simp)
theorem two_args {K : Ks} {φ : Ph} {a b : AV} {cas : Array Value} (h : DenL K φ [a, b] cas.toList) : ∃ v u, cas = #[v, u] ∧ Den K φ a v ∧ Den K φ b u := by
  obtain ⟨l⟩ := cas
  match l, h with
  | [v, u], h => exact ⟨v, u, rfl, h.2 0 a v rfl rfl, h.2 1 b u rfl rfl⟩
  | [], h => exact absurd h.1 (by simp)
  | [_], h => exact absurd h.1 (by simp)
  | _ :: _ :: _ :: _, h => exact absurd h.1 (by simp)
theorem three_args {K : Ks} {φ : Ph} {a b c : AV} {cas : Array Value} (h : DenL K φ [a, b, c] cas.toList) : ∃ v u x, cas = #[v, u, x] ∧ Den K φ a v ∧ Den K φ b u ∧ Den K φ c x := by
  obtain ⟨l⟩ := cas
  match l, h with
  | [v, u, x], h => exact ⟨v, u, x, rfl, h.2 0 a v rfl rfl, h.2 1 b u rfl rfl, h.2 2 c x rfl rfl⟩
  | [], h => exact absurd h.1 (by simp)
  | [_], h => exact absurd h.1 (by simp)
  | [_, _], h => exact absurd h.1 (by simp)
  | _ :: _ :: _ :: _ :: _, h => exact absurd h.1 (by simp)
theorem next_pure (l : List AV) (y : AV × Bool) (e : gNext l = some (true, y)) : PureOK Try.prog 166 l y := by
  intro w K cas hr hd
  unfold gNext at e
  split at e
  · rename_i s n m
    simp only [Option.some.injEq, Prod.mk.injEq, Bool.and_eq_true, decide_eq_true_eq] at e
    obtain ⟨⟨⟨⟨h0, h1⟩, h2⟩, h3⟩, rfl⟩ := e
    obtain ⟨v, u, x, rfl, d1, d2, d3⟩ := three_args hd
    cases d1; cases d2; cases d3
    refine (PS.next_calls s n m w h0 h1 h2 h3).mono fun en w' hx => ?_
    obtain ⟨rfl, rfl⟩ := hx
    exact exits_new hr (Below.refl _ _) rfl (Den.tup_iff.2 ⟨_, rfl, DenL.cons (.int ..) (DenL.cons (.bool ..) (DenL.nil _ _))⟩)
  · cases e
theorem travel_pure (l : List AV) (y : AV × Bool) (e : gTravel l = some (true, y)) : PureOK Try.prog 107 l y := by
  intro w K cas hr hd
  unfold gTravel at e
  split at e
  · rename_i n m
    simp only [Option.some.injEq, Prod.mk.injEq, Bool.and_eq_true, decide_eq_true_eq] at e
    obtain ⟨⟨⟨⟨h0, h1⟩, h2⟩, h3⟩, rfl⟩ := e
    obtain ⟨v, u, rfl, d1, d2⟩ := two_args hd
    cases d1; cases d2
    refine (PS.profile_travel.calls n m _ _ w (by unfold PS.profile_travel.f; rw [if_pos ⟨h0, h1, h2, h3⟩])).mono fun en w' hx => ?_
    obtain ⟨rfl, hb⟩ := hx
    exact exits_new hr hb rfl (Den.tup_iff.2 ⟨_, rfl, DenL.cons (.int ..) (DenL.cons (.int ..) (DenL.nil _ _))⟩)
  · cases e
/-- The positions, or none. -/
def posP (l : List Int) : List Int × Int := (PS.shaft_Positions.f l).getD ([], 0)
def gPos : List AV → Option (Bool × AV × Bool)
  | [a] => match rowOf a with
    | some (n, f) => some (okInts n f && decide (n ≤ 9223372036854775807), .tup [rowI (posP (intsOf n f)).1, .int .i64 (posP (intsOf n f)).2], false)
    | none => none
  | _ => none
theorem pos_pure (l : List AV) (y : AV × Bool) (e : gPos l = some (true, y)) : PureOK Try.prog 63 l y := by
  intro w K cas hr hd
  unfold gPos at e
  split at e
  · rename_i a
    split at e
    · rename_i n f hrow
      simp only [Option.some.injEq, Prod.mk.injEq, Bool.and_eq_true, decide_eq_true_eq] at e
      obtain ⟨⟨h0, h1⟩, rfl⟩ := e
      obtain ⟨v, rfl, d1⟩ := one_arg hd
      obtain ⟨A, cap, rfl, hC, hcap⟩ := ints_in hr d1 hrow h0 h1
      have hf : PS.shaft_Positions.f (intsOf n f) = some ((posP (intsOf n f)).1, (posP (intsOf n f)).2) := by
        unfold posP
        obtain ⟨y, hy⟩ : ∃ y, PS.shaft_Positions.f (intsOf n f) = some y := by
          unfold PS.shaft_Positions.f PS.shaft_Check.f
          simp only [Option.bind_some]
          generalize (if (intsOf n f).length < 1 then ((4 : Int), (0 : Int)) else _) = z
          by_cases hz : z.1 = 0
          · rw [if_pos hz]; exact ⟨_, rfl⟩
          · rw [if_neg hz]; exact ⟨_, rfl⟩
        rw [hy]; rfl
      refine (PS.shaft_Positions.calls A cap _ _ _ w hC hcap hf).mono fun en w' hx => ?_
      obtain ⟨v0, rfl, hR, hb⟩ := hx
      exact exits_new hr hb rfl (Den.tup_iff.2 ⟨_, rfl, DenL.cons (ints_out hR) (DenL.cons (.int ..) (DenL.nil _ _))⟩)
    · cases e
  · cases e
end Go.Proofs.Ytdhlbfhfenomcaa.Ab
