/- Words on memory that the hand-told functions of this seat share: one new block; one block written over. -/
import Derived.Test.YtdhlbfhfenomcaaWWords
import Derived.Test.YtdhlbfhfenomcaaWLast
import Derived.Test.YtdhlbfhfenomcaaWMore
import Derived.Test.YtdhlbfhfenomcaaWEqStruct
import Derived.ChangeKeysEq
import Derived.Deep.MidRow
import Derived.LoopN
import Derived.WalkSpells
namespace Go.Proofs.Ytdhlbfhfenomcaa.Mw
open Go.RowKit Go.Proofs.YtdhlbfhfenomcaaW.PrintWords Go.Proofs.YtdhlbfhfenomcaaW.PrintLast Go.Proofs.YtdhlbfhfenomcaaW.PrintMore
set_option linter.unusedVariables false

/-- One new block, and nothing else. -/
structure Laid (w : World) (o : Obj) (w' : World) : Prop where
  new : w'.heap[w.heap.size]? = some o
  size : w'.heap.size = w.heap.size + 1
  below : Below w.heap.size w w'
theorem laid_alloc (w : World) (o : Obj) : Laid w o (w.alloc o) := ⟨blk_new w o, by simp, (Below.refl _ _).alloc (Nat.le_refl _) o⟩
/-- One block written over, and nothing else. -/
structure Wrote (w : World) (g : Nat) (o : Obj) (w' : World) : Prop where
  new : w'.heap[g]? = some o
  size : w'.heap.size = w.heap.size
  grown : w.grownBy w' (some g)
theorem wrote_cells {w : World} {g : Nat} {t : TypeId} {zs : Array Value} {vs : List Value} (hb : w.heap[g]? = some (.cells zs t (0, 0))) (hsz : zs.size = vs.length) : Wrote w g (.cells vs.toArray t (0, 0)) (w.setCells g 0 vs) := by
  obtain ⟨cur, h1, h2, h3⟩ := setCells_row vs 0 w zs hb (by omega)
  obtain ⟨s1, s2, s3, s4⟩ := setCells_same g vs 0 w
  have e : cur = vs.toArray := by
    apply Array.toList_inj.1
    rw [h3]
    have e : List.drop (0 + vs.length) zs.toList = [] := by rw [List.drop_eq_nil_iff]; simp; omega
    rw [e]
    simp
  refine ⟨by rw [h1, e], s4, ⟨s1, s2, s3, by rw [s4]; exact Nat.le_refl _, fun k _ hk => setCells_far vs 0 k (fun e => hk (by rw [e]))⟩⟩
theorem there_blk {w : World} {g : Nat} {t : TypeId} {zs : Array Value} (h : w.heap[g]? = some (.cells zs t (0, 0))) : w.there g 0 zs.size := by
  intro j hj
  refine ⟨?_, blk_frozen h _⟩
  rw [show 0 + j = j from by omega, blk_cell h j, Array.getElem?_eq_getElem hj]; rfl

section
variable {P : Program} {ops : Array Oper} {o : Oper} {a : Act} {K : Act → World → Prop} {Q : Exit → Act → World → Prop}
/-- A step of a region that draws: a variable is made. -/
theorem step_alloc (hw : Region.wanted o (yielded ops a.tmps) = true) {N : Option Tmp} (hN : o.dst = N) (t : TypeId) (_ho : o.op = .alloc t) (zs : Array Value) {w : World}
    (hz : (execOp a.eval o).run P w = .ok (.value (.pointer (some ⟨w.heap.size, 0, none⟩))) (w.alloc (.cells zs t)))
    (h : ∀ w', Laid w (.cells zs t) w' → K (a.put N (.pointer (some ⟨w.heap.size, 0, none⟩))) w') :
    if Region.wanted o (yielded ops a.tmps) = true then Oper.wp P o a w K Q else K (a.put N undef) w :=
  value_ hw hN hz (h _ (laid_alloc _ _))
/-- A step of a region that draws: a whole row or struct is stored into a block. -/
theorem step_store (hw : Region.wanted o (yielded ops a.tmps) = true) (hN : o.dst = none) (ty : TypeId) (x y : Operand) (ho : o.op = .store ty x y)
    {w : World} {g : Nat} {t : TypeId} {zs : Array Value} (vs : List Value) (hb : w.heap[g]? = some (.cells zs t (0, 0))) (hx : a.eval x = .pointer (some ⟨g, 0, none⟩)) (hy : a.eval y = .agg vs.toArray) (hsz : zs.size = vs.length)
    (hi : (P.info? ty).map (·.size) = some vs.length) (h1 : vs.toArray.all (·.oneCell') = true) (h : ∀ w', Wrote w g (.cells vs.toArray t (0, 0)) w' → K a w') :
    if Region.wanted o (yielded ops a.tmps) = true then Oper.wp P o a w K Q else K (a.put none undef) w := by
  rw [if_pos hw]
  refine wp_store_mid ty x y ho g 0 vs.toArray hx hy ?_ (by simpa using hi) h1 ?_
  · have ht := there_blk hb
    rw [hsz] at ht
    simpa using ht
  · rw [List.toList_toArray, hN]
    exact h _ (wrote_cells hb hsz)
end

theorem below_src {B : Nat} {w w' : World} (h : Below B w.drew w') : Below B w w' := ⟨h.os, h.tape, h.output, h.size, h.block⟩
theorem below_src' {B n : Nat} {w w' : World} (h : Below B (w.drewN n) w') : Below B w w' := ⟨h.os, h.tape, h.output, h.size, h.block⟩
theorem drawn_below {B : Nat} {w w' : World} (h : Drawn0 w w') : Below B w w' := by
  obtain ⟨n, rfl⟩ := h.out
  exact pw_below_drewN (Below.refl _ _) n
theorem ret_int {k : IntKind} {a b : Int} (h : a = b) : Ending.returned (.int k a) = .returned (.int k b) := by rw [h]
theorem ret_bool {a b : Bool} (h : a = b) : Ending.returned (.bool a) = .returned (.bool b) := by rw [h]
/-- The cells of a row of whole numbers. -/
theorem C_int_cells {w : World} {A : Option Addr} {n : Nat} {l : List Int} (h : Kd.C (Kd.int .i64) w A n l) (hn : 0 < n) : ∃ ad, A = some ad ∧ ∀ j u, (l.map (Value.int .i64))[j]? = some u → w.cell? (ad.add j) = some u := by
  obtain ⟨ad, e, hc⟩ := h.2.2 hn
  refine ⟨ad, e, fun j u hu => ?_⟩
  rw [List.getElem?_map] at hu
  cases hx : l[j]? with
  | none => rw [hx] at hu; cases hu
  | some x =>
    rw [hx] at hu
    cases hu
    obtain ⟨c, hl, hk, hcc⟩ := hc j x hx
    have hk' : c = [.int .i64 x] := hk
    subst hk'
    have := hcc 0 _ rfl
    simpa [Kd.int, Kd.scalar] using this
theorem C_int_cells' {w : World} {ad : Addr} {n : Nat} {l : List Int} (h : Kd.C (Kd.int .i64) w (some ad) n l) (hn : 0 < n) : ∀ j u, (l.map (Value.int .i64))[j]? = some u → w.cell? (ad.add j) = some u := by
  obtain ⟨ad', e, hc⟩ := C_int_cells h hn
  cases e
  exact hc
theorem one_ints (k : IntKind) (l : List Int) : ∀ u ∈ l.map (Value.int k), u.oneCell' = true := by
  intro u hu
  obtain ⟨x, _, rfl⟩ := List.mem_map.1 hu
  rfl
theorem eqArr3 {P : Program} {w : World} {d n : Nat} {t e : TypeId} {i : TypeInfo} {xs ys : Array Value} {a0 b0 a1 b1 a2 b2 : Value} {r0 r1 r2 : Bool} (hu : P.underlying t = some (.array 3 e)) (hi : P.info? e = some i) (hc : P.cellsOf e = n)
    (ha0 : (part e xs (0 * n)).run P w = .ok a0 w) (hb0 : (part e ys (0 * n)).run P w = .ok b0 w) (h0 : (Op.equalIn d e a0 b0).run P w = .ok r0 w)
    (ha1 : (part e xs (1 * n)).run P w = .ok a1 w) (hb1 : (part e ys (1 * n)).run P w = .ok b1 w) (h1 : (Op.equalIn d e a1 b1).run P w = .ok r1 w)
    (ha2 : (part e xs (2 * n)).run P w = .ok a2 w) (hb2 : (part e ys (2 * n)).run P w = .ok b2 w) (h2 : (Op.equalIn d e a2 b2).run P w = .ok r2 w) :
    (Op.equalIn (d + 1) t (.agg xs) (.agg ys)).run P w = .ok (r0 && (r1 && r2)) w := by
  rw [run_equalIn_array w d xs ys hu hi, hc, show List.range 3 = [0, 1, 2] from rfl]
  rw [Nat.one_mul] at ha1 hb1
  rw [Nat.zero_mul] at ha0 hb0
  cases r0 <;> cases r1 <;> cases r2 <;> simp [Op.eqItems, ha0, hb0, h0, ha1, hb1, h1, ha2, hb2, h2]
theorem info_some {P : Program} {e : TypeId} {n : Nat} (h : (P.info? e).map (·.size) = some n) : ∃ i, P.info? e = some i := by
  cases hi : P.info? e with
  | none => rw [hi] at h; cases h
  | some i => exact ⟨i, rfl⟩
/-- An element of a row of rows of whole numbers. -/
theorem C_row {w : World} {e : Nat} {A : Option Addr} {n : Nat} {l : List (List Int)} (h : Kd.C (Kd.slice e (Kd.int .i64)) w A n l) (k : Nat) (hk : k < l.length) :
    ∃ (ad : Addr) (B : Option Addr) (c : Nat), A = some ad ∧ w.cell? (ad.add k) = some (.slice B (l[k]).length c) ∧ (l[k]).length ≤ c ∧ Kd.C (Kd.int .i64) w B (l[k]).length l[k] := by
  obtain ⟨ad, e1, hc⟩ := h.2.2 (by have := h.1; omega)
  obtain ⟨c, hl, hK, hcc⟩ := hc k l[k] (List.getElem?_eq_getElem hk)
  obtain ⟨B, c', rfl, h1, h2⟩ := hK
  refine ⟨ad, B, c', e1, ?_, h1, h2⟩
  have := hcc 0 _ rfl
  simpa [Kd.slice] using this
end Go.Proofs.Ytdhlbfhfenomcaa.Mw
