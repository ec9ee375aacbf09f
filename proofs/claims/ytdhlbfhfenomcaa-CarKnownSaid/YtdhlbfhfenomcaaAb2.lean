/- How the abstract heap follows the memory: blocks made, blocks written, rows that nobody writes any more. -/
import Derived.Test.YtdhlbfhfenomcaaAb1
import Derived.Deep.MidRow
namespace Go.Proofs.Ytdhlbfhfenomcaa.Ab
open Go Go.RowKit
set_option linter.unusedVariables false
set_option linter.unusedSimpArgs false

theorem hset_length (h : List Blk) : ∀ (b : Nat) (x : Blk), b ≤ h.length → (hset h b x).length = if b = h.length then h.length + 1 else h.length := by
  induction h with
  | nil => intro b x hb; simp at hb; subst hb; rfl
  | cons a l ih =>
    intro b x hb
    cases b with
    | zero => simp [hset]
    | succ b =>
      simp only [List.length_cons] at hb
      simp only [hset, List.length_cons, ih b x (by omega)]
      split <;> split <;> omega
theorem hset_get (h : List Blk) : ∀ (b i : Nat) (x : Blk), b ≤ h.length → (hset h b x)[i]? = if i = b then some x else h[i]? := by
  induction h with
  | nil =>
    intro b i x hb; simp at hb; subst hb
    cases i with
    | zero => rfl
    | succ i => simp [hset]
  | cons a l ih =>
    intro b i x hb
    cases b with
    | zero => cases i <;> simp [hset]
    | succ b =>
      simp only [List.length_cons] at hb
      cases i with
      | zero => simp [hset]
      | succ i => simp only [hset, List.getElem?_cons_succ, ih b i x (by omega)]; split <;> split <;> first | rfl | omega

/-- Blocks may have come; no block has turned. -/
structure Grow (w w' : World) : Prop where
  size : w.heap.size ≤ w'.heap.size
  old : ∀ k, k < w.heap.size → w'.heap[k]? = w.heap[k]?
  os : w'.os = w.os
  tape : w'.tape = w.tape
  output : w'.output = w.output
theorem Grow.refl (w : World) : Grow w w := ⟨Nat.le_refl _, fun _ _ => rfl, rfl, rfl, rfl⟩
theorem Grow.trans {a b c : World} (h : Grow a b) (k : Grow b c) : Grow a c :=
  ⟨Nat.le_trans h.size k.size, fun i hi => (k.old i (Nat.lt_of_lt_of_le hi h.size)).trans (h.old i hi), k.os.trans h.os, k.tape.trans h.tape, k.output.trans h.output⟩
theorem Grow.alloc (w : World) (o : Obj) : Grow w (w.alloc o) := ⟨by simp, fun k hk => Below.heap_alloc w o k hk, rfl, rfl, rfl⟩
theorem Grow.drew (w : World) : Grow w w.drew := ⟨Nat.le_refl _, fun _ _ => rfl, rfl, rfl, rfl⟩
theorem Grow.below {w w' : World} (h : Below w.heap.size w w') : Grow w w' := ⟨h.size, h.block, h.os, h.tape, h.output⟩
theorem Grow.toBelow {w w' : World} (h : Grow w w') {B : Nat} (hB : B ≤ w.heap.size) : Below B w w' := ⟨h.os, h.tape, h.output, h.size, fun k hk => h.old k (Nat.lt_of_lt_of_le hk hB)⟩

theorem BlkOK.grow {K : Ks} {φ : Ph} {w w' : World} {g : GB} {b : Blk} (h : BlkOK K φ w g b) (hg : w'.heap[g.cb]? = w.heap[g.cb]?) : BlkOK K φ w' g b := by
  cases b with
  | dead => trivial
  | own => obtain ⟨c, t, h1, h2⟩ := h; exact ⟨c, t, hg.trans h1, h2⟩
  | cells l => obtain ⟨c, t, h1, h2⟩ := h; exact ⟨c, t, hg.trans h1, h2⟩
  | map es => obtain ⟨c, k, h1, h2⟩ := h; exact ⟨c, k, hg.trans h1, h2⟩
theorem BlkOK.mono {K K' : Ks} {φ φ' : Ph} {w : World} {g : GB} {b : Blk} (h : BlkOK K φ w g b) (e : Ext φ K φ' K') : BlkOK K' φ' w g b := by
  cases b with
  | dead => trivial
  | own => exact h
  | cells l => obtain ⟨c, t, h1, h2⟩ := h; exact ⟨c, t, h1, h2.mono e⟩
  | map es => obtain ⟨c, k, h1, h2, h3⟩ := h; exact ⟨c, k, h1, h2, fun i x y hx hy => ⟨(h3 i x y hx hy).1.mono e, (h3 i x y hx hy).2.mono e⟩⟩
theorem BlkOK.lt {K : Ks} {φ : Ph} {w : World} {g : GB} {b : Blk} (h : BlkOK K φ w g b) (hl : b.live = true) : g.cb < w.heap.size := by
  have key : ∀ o : Obj, w.heap[g.cb]? = some o → g.cb < w.heap.size := fun o h => by
    rcases Nat.lt_or_ge g.cb w.heap.size with h' | h'
    · exact h'
    · simp [Array.getElem?_eq_none h'] at h
  cases b with
  | dead => simp [Blk.live] at hl
  | own => obtain ⟨c, t, h1, _⟩ := h; exact key _ h1
  | cells l => obtain ⟨c, t, h1, _⟩ := h; exact key _ h1
  | map es => obtain ⟨c, t, h1, _⟩ := h; exact key _ h1

theorem Rel.grow {B : Nat} {φ : Ph} {K : Ks} {h : List Blk} {w w' : World} (r : Rel B φ K h w) (g : Grow w w') : Rel B φ K h w' where
  base := Nat.le_trans r.base g.size
  fresh := r.fresh
  blk i b k hb hk := by
    cases hl : b.live with
    | false => cases b <;> first | trivial | simp [Blk.live] at hl
    | true => exact (r.blk i b k hb hk).grow (g.old _ (r.own i b k hb hl hk).2)
  there := r.there
  own i b k hb hl hk := ⟨(r.own i b k hb hl hk).1, Nat.lt_of_lt_of_le (r.own i b k hb hl hk).2 g.size⟩
  inj := r.inj
  one := r.one
  stab cb o v hv := by
    obtain ⟨h1, h2⟩ := r.stab cb o v hv
    refine ⟨?_, h2⟩
    have hlt : cb < w.heap.size := World.block_lt_of_cell? w _ h1
    rw [← h1]
    exact World.cell?_of_block (w := w) (g.old cb hlt)

/-- More is known not to be written: cells of blocks that nobody names. -/
theorem Rel.more {B : Nat} {φ : Ph} {K K' : Ks} {h : List Blk} {w : World} (r : Rel B φ K h w) (hK : ∀ b o v, K b o = some v → K' b o = some v)
    (hn : ∀ cb o v, K' cb o = some v → K cb o = some v ∨ (v.oneCell' = true ∧ w.cell? ⟨cb, o, none⟩ = some v ∧ ∀ (i : Nat) (b : Blk) (g : GB), h[i]? = some b → b.live = true → φ i = some g → g.cb = cb → b = .own ∧ o < g.e)) : Rel B φ K' h w where
  base := r.base
  fresh := r.fresh
  blk i b g hb hg := (r.blk i b g hb hg).mono ⟨fun _ _ h => h, hK⟩
  there := r.there
  own := r.own
  inj := r.inj
  one cb o v hv := by
    rcases hn cb o v hv with h | h
    · exact r.one cb o v h
    · exact h.1
  stab cb o v hv := by
    rcases hn cb o v hv with h | h
    · exact r.stab cb o v h
    · exact h.2

def upd (φ : Ph) (s : Nat) (g : GB) : Ph := fun i => if i = s then some g else φ i
theorem upd_ext {φ : Ph} {K : Ks} {s : Nat} (g : GB) (h : φ s = none) : Ext φ K (upd φ s g) K :=
  ⟨fun i k hk => by unfold upd; split; · rename_i e; subst e; rw [h] at hk; cases hk
                    · exact hk, fun _ _ _ h => h⟩
theorem upd_same (φ : Ph) (s : Nat) (g : GB) : upd φ s g s = some g := by unfold upd; rw [if_pos rfl]

/-- A slot that holds nothing yet is filled; its block is none that is named already. -/
theorem Rel.fill {B : Nat} {φ : Ph} {K : Ks} {h : List Blk} {w : World} (r : Rel B φ K h w) {s : Nat} (hs : s ≤ h.length) (hφ : φ s = none) (x : Blk) (g : GB) (hx : BlkOK K (upd φ s g) w g x)
    (hB : B ≤ g.cb) (hlive : x.live = true) (hnew : ∀ (i : Nat) (b : Blk) (k : GB), h[i]? = some b → b.live = true → φ i = some k → k.cb ≠ g.cb)
    (hst : ∀ o v, K g.cb o = some v → x = .own ∧ o < g.e) : Rel B (upd φ s g) K (hset h s x) w where
  base := r.base
  fresh i hi := by
    rw [hset_length h s x hs] at hi
    unfold upd
    by_cases e : i = s
    · subst e; split at hi <;> omega
    · rw [if_neg e]; exact r.fresh i (by split at hi <;> omega)
  blk i b k hb hk := by
    rw [hset_get h s i x hs] at hb
    by_cases e : i = s
    · subst e; rw [if_pos rfl] at hb; cases hb; rw [upd_same] at hk; cases hk; exact hx
    · rw [if_neg e] at hb; unfold upd at hk; rw [if_neg e] at hk; exact (r.blk i b k hb hk).mono (upd_ext g hφ)
  there i b hb hno hl := by
    rw [hset_get h s i x hs] at hb
    by_cases e : i = s
    · subst e; exact ⟨g, upd_same _ _ _⟩
    · rw [if_neg e] at hb; unfold upd; rw [if_neg e]; exact r.there i b hb hno hl
  own i b k hb hl hk := by
    rw [hset_get h s i x hs] at hb
    by_cases e : i = s
    · subst e; rw [if_pos rfl] at hb; cases hb; rw [upd_same] at hk; cases hk; exact ⟨hB, hx.lt hlive⟩
    · rw [if_neg e] at hb; unfold upd at hk; rw [if_neg e] at hk; exact r.own i b k hb hl hk
  inj i j b c k m hb hc hl hl' hk hm e := by
    rw [hset_get h s i x hs] at hb
    rw [hset_get h s j x hs] at hc
    unfold upd at hk hm
    by_cases ei : i = s
    · by_cases ej : j = s
      · rw [ei, ej]
      · rw [if_pos ei] at hk; rw [if_neg ej] at hm hc; cases hk
        exact absurd e.symm (hnew j c m hc hl' hm)
    · by_cases ej : j = s
      · rw [if_neg ei] at hk hb; rw [if_pos ej] at hm; cases hm
        exact absurd e (hnew i b k hb hl hk)
      · rw [if_neg ei] at hk hb; rw [if_neg ej] at hm hc
        exact r.inj i j b c k m hb hc hl hl' hk hm e
  one := r.one
  stab cb o v hv := by
    obtain ⟨h1, h2⟩ := r.stab cb o v hv
    refine ⟨h1, fun i b k hb hl hk e => ?_⟩
    rw [hset_get h s i x hs] at hb
    by_cases ei : i = s
    · subst ei; rw [if_pos rfl] at hb; cases hb; rw [upd_same] at hk; cases hk; subst e; exact hst o v hv
    · rw [if_neg ei] at hb; unfold upd at hk; rw [if_neg ei] at hk; exact h2 i b k hb hl hk e
/-- A slot filled with the right to append where there is no spare room: nothing is said. -/
theorem Rel.ownNone {B : Nat} {φ : Ph} {K : Ks} {h : List Blk} {w : World} (r : Rel B φ K h w) {s : Nat} (hs : s ≤ h.length) (hφ : φ s = none) : Rel B φ K (hset h s .own) w where
  base := r.base
  fresh i hi := by rw [hset_length h s .own hs] at hi; exact r.fresh i (by split at hi <;> omega)
  blk i b k hb hk := by
    rw [hset_get h s i _ hs] at hb
    by_cases e : i = s
    · subst e; rw [hφ] at hk; cases hk
    · rw [if_neg e] at hb; exact r.blk i b k hb hk
  there i b hb hno hl := by
    rw [hset_get h s i _ hs] at hb
    by_cases e : i = s
    · subst e; rw [if_pos rfl] at hb; cases hb; exact absurd rfl hno
    · rw [if_neg e] at hb; exact r.there i b hb hno hl
  own i b k hb hl hk := by
    rw [hset_get h s i _ hs] at hb
    by_cases e : i = s
    · subst e; rw [hφ] at hk; cases hk
    · rw [if_neg e] at hb; exact r.own i b k hb hl hk
  inj i j b c k m hb hc hl hl' hk hm e := by
    rw [hset_get h s i _ hs] at hb
    rw [hset_get h s j _ hs] at hc
    by_cases ei : i = s
    · subst ei; rw [hφ] at hk; cases hk
    · by_cases ej : j = s
      · subst ej; rw [hφ] at hm; cases hm
      · rw [if_neg ei] at hb; rw [if_neg ej] at hc; exact r.inj i j b c k m hb hc hl hl' hk hm e
  one := r.one
  stab cb o v hv := by
    obtain ⟨h1, h2⟩ := r.stab cb o v hv
    refine ⟨h1, fun i b k hb hl hk e => ?_⟩
    rw [hset_get h s i _ hs] at hb
    by_cases ei : i = s
    · subst ei; rw [hφ] at hk; cases hk
    · rw [if_neg ei] at hb; exact h2 i b k hb hl hk e
/-- A block is forgotten. -/
theorem Rel.kill {B : Nat} {φ : Ph} {K : Ks} {h : List Blk} {w : World} (r : Rel B φ K h w) {s : Nat} (hs : s < h.length) : Rel B φ K (hset h s .dead) w where
  base := r.base
  fresh i hi := by rw [hset_length h s .dead (Nat.le_of_lt hs)] at hi; exact r.fresh i (by split at hi <;> omega)
  blk i b k hb hk := by
    rw [hset_get h s i _ (Nat.le_of_lt hs)] at hb
    by_cases e : i = s
    · subst e; rw [if_pos rfl] at hb; cases hb; trivial
    · rw [if_neg e] at hb; exact r.blk i b k hb hk
  there i b hb hno hl := by
    rw [hset_get h s i _ (Nat.le_of_lt hs)] at hb
    by_cases e : i = s
    · subst e; rw [if_pos rfl] at hb; cases hb; simp [Blk.live] at hl
    · rw [if_neg e] at hb; exact r.there i b hb hno hl
  own i b k hb hl hk := by
    rw [hset_get h s i _ (Nat.le_of_lt hs)] at hb
    by_cases e : i = s
    · subst e; rw [if_pos rfl] at hb; cases hb; simp [Blk.live] at hl
    · rw [if_neg e] at hb; exact r.own i b k hb hl hk
  inj i j b c k m hb hc hl hl' hk hm e := by
    rw [hset_get h s i _ (Nat.le_of_lt hs)] at hb
    rw [hset_get h s j _ (Nat.le_of_lt hs)] at hc
    by_cases ei : i = s
    · subst ei; rw [if_pos rfl] at hb; cases hb; simp [Blk.live] at hl
    · by_cases ej : j = s
      · subst ej; rw [if_pos rfl] at hc; cases hc; simp [Blk.live] at hl'
      · rw [if_neg ei] at hb; rw [if_neg ej] at hc; exact r.inj i j b c k m hb hc hl hl' hk hm e
  one := r.one
  stab cb o v hv := by
    obtain ⟨h1, h2⟩ := r.stab cb o v hv
    refine ⟨h1, fun i b k hb hl hk e => ?_⟩
    rw [hset_get h s i _ (Nat.le_of_lt hs)] at hb
    by_cases ei : i = s
    · subst ei; rw [if_pos rfl] at hb; cases hb; simp [Blk.live] at hl
    · rw [if_neg ei] at hb; exact h2 i b k hb hl hk e
/-- A block that is no row of an append's is written. -/
theorem Rel.write {B : Nat} {φ : Ph} {K : Ks} {h : List Blk} {w w' : World} (r : Rel B φ K h w) {s : Nat} {x : Blk} {g : GB} (hs : h[s]? = some x) (hx : x.live = true) (hxo : x ≠ .own) (hg : φ s = some g) (y : Blk)
    (hy : BlkOK K φ w' g y) (hyl : y.live = true) (hyo : y ≠ .own) (hsz : w'.heap.size = w.heap.size) (hw : ∀ k, k ≠ g.cb → w'.heap[k]? = w.heap[k]?) : Rel B φ K (hset h s y) w' where
  base := by rw [hsz]; exact r.base
  fresh i hi := by
    have hlt : s < h.length := by rcases Nat.lt_or_ge s h.length with h' | h'; exact h'; simp [List.getElem?_eq_none h'] at hs
    rw [hset_length h s y (Nat.le_of_lt hlt)] at hi; exact r.fresh i (by split at hi <;> omega)
  blk i b k hb hk := by
    have hlt : s < h.length := by rcases Nat.lt_or_ge s h.length with h' | h'; exact h'; simp [List.getElem?_eq_none h'] at hs
    rw [hset_get h s i _ (Nat.le_of_lt hlt)] at hb
    by_cases e : i = s
    · subst e; rw [if_pos rfl] at hb; cases hb; rw [hg] at hk; cases hk; exact hy
    · rw [if_neg e] at hb
      cases hl : b.live with
      | false => cases b <;> first | trivial | simp [Blk.live] at hl
      | true => exact (r.blk i b k hb hk).grow (hw _ fun e' => e (r.inj i s b x k g hb hs hl hx hk hg e'))
  there i b hb hno hl := by
    have hlt : s < h.length := by rcases Nat.lt_or_ge s h.length with h' | h'; exact h'; simp [List.getElem?_eq_none h'] at hs
    rw [hset_get h s i _ (Nat.le_of_lt hlt)] at hb
    by_cases e : i = s
    · subst e; exact ⟨g, hg⟩
    · rw [if_neg e] at hb; exact r.there i b hb hno hl
  own i b k hb hl hk := by
    have hlt : s < h.length := by rcases Nat.lt_or_ge s h.length with h' | h'; exact h'; simp [List.getElem?_eq_none h'] at hs
    rw [hset_get h s i _ (Nat.le_of_lt hlt)] at hb
    rw [hsz]
    by_cases e : i = s
    · subst e; exact r.own i x k hs hx hk
    · rw [if_neg e] at hb; exact r.own i b k hb hl hk
  inj i j b c k m hb hc hl hl' hk hm e := by
    have hlt : s < h.length := by rcases Nat.lt_or_ge s h.length with h' | h'; exact h'; simp [List.getElem?_eq_none h'] at hs
    rw [hset_get h s i _ (Nat.le_of_lt hlt)] at hb
    rw [hset_get h s j _ (Nat.le_of_lt hlt)] at hc
    by_cases ei : i = s
    · by_cases ej : j = s
      · rw [ei, ej]
      · rw [if_neg ej] at hc; subst ei; exact r.inj i j x c k m hs hc hx hl' hk hm e
    · by_cases ej : j = s
      · rw [if_neg ei] at hb; subst ej; exact r.inj i j b x k m hb hs hl hx hk hm e
      · rw [if_neg ei] at hb; rw [if_neg ej] at hc; exact r.inj i j b c k m hb hc hl hl' hk hm e
  one := r.one
  stab cb o v hv := by
    have hlt : s < h.length := by rcases Nat.lt_or_ge s h.length with h' | h'; exact h'; simp [List.getElem?_eq_none h'] at hs
    obtain ⟨h1, h2⟩ := r.stab cb o v hv
    have hne : cb ≠ g.cb := fun e => hxo (h2 s x g hs hx hg e.symm).1
    refine ⟨by rw [← h1]; exact World.cell?_of_block (w := w) (hw cb hne), fun i b k hb hl hk e => ?_⟩
    rw [hset_get h s i _ (Nat.le_of_lt hlt)] at hb
    by_cases ei : i = s
    · subst ei; rw [hg] at hk; cases hk; exact absurd e.symm hne
    · rw [if_neg ei] at hb; exact h2 i b k hb hl hk e

/-- A block that nobody names is written, where nothing is known of it. -/
theorem Rel.free {B : Nat} {φ : Ph} {K : Ks} {h : List Blk} {w w' : World} (r : Rel B φ K h w) (cb e : Nat) (hno : ∀ (i : Nat) (b : Blk) (g : GB), h[i]? = some b → b.live = true → φ i = some g → g.cb ≠ cb) (hK : ∀ o v, K cb o = some v → o < e)
    (hsz : w'.heap.size = w.heap.size) (hw : ∀ k, k ≠ cb → w'.heap[k]? = w.heap[k]?) (hc : ∀ o, o < e → w'.cell? ⟨cb, o, none⟩ = w.cell? ⟨cb, o, none⟩) : Rel B φ K h w' where
  base := by rw [hsz]; exact r.base
  fresh := r.fresh
  blk i b k hb hk := by
    cases hl : b.live with
    | false => cases b <;> first | trivial | simp [Blk.live] at hl
    | true => exact (r.blk i b k hb hk).grow (hw _ (hno i b k hb hl hk))
  there := r.there
  own i b k hb hl hk := by rw [hsz]; exact r.own i b k hb hl hk
  inj := r.inj
  one := r.one
  stab c o v hv := by
    obtain ⟨h1, h2⟩ := r.stab c o v hv
    refine ⟨?_, h2⟩
    by_cases e' : c = cb
    · subst e'; rw [hc o (hK o v hv)]; exact h1
    · rw [← h1]; exact World.cell?_of_block (w := w) (hw c e')

/-! ### Cells of one block -/
theorem heap_setCells (g : Nat) (t : TypeId) : ∀ (vs : List Value) (o : Nat) (w : World) (cs : Array Value), w.heap[g]? = some (.cells cs t (0, 0)) → o + vs.length ≤ cs.size →
    ∃ ds : Array Value, (w.setCells g o vs).heap[g]? = some (.cells ds t (0, 0)) ∧ ds.toList = cs.toList.take o ++ vs ++ cs.toList.drop (o + vs.length) := by
  intro vs
  induction vs with
  | nil => intro o w cs h hl; exact ⟨cs, h, by simp⟩
  | cons v vs ih =>
    intro o w cs h hl
    simp only [List.length_cons] at hl
    obtain ⟨ds, h1, h2⟩ := ih (o + 1) (w.setCell ⟨g, o, none⟩ v) (cs.setIfInBounds o v) (heap_setCell_same w g o cs t v h) (by simp; omega)
    refine ⟨ds, h1, ?_⟩
    rw [h2]
    apply List.ext_getElem?
    intro i
    simp only [Array.toList_setIfInBounds, List.getElem?_append, List.length_append, List.length_take, List.length_set, List.getElem?_take, List.getElem?_set, List.getElem?_drop, List.length_cons, Array.length_toList]
    have e1 : min (o + 1) cs.size = o + 1 := by omega
    have e2 : min o cs.size = o := by omega
    rw [e1, e2]
    by_cases hi : i < o
    · simp [hi, show i < o + 1 + vs.length by omega, show i < o + 1 by omega, show i < o + (vs.length + 1) by omega, show ¬ o = i by omega]
    · by_cases hi2 : i = o
      · subst hi2
        simp [show i < cs.size by omega, show i < i + 1 + vs.length by omega]
      · by_cases hi3 : i < o + 1 + vs.length
        · simp [hi, hi3, show ¬ i < o + 1 by omega, show i < o + (vs.length + 1) by omega, show i - o = i - (o + 1) + 1 by omega]
        · simp [hi, hi3, show ¬ i < o + (vs.length + 1) by omega, show ¬ o = o + 1 + vs.length + (i - (o + 1 + vs.length)) by omega]
          congr 1; omega
theorem heap_setCells_other (g k : Nat) (hk : k ≠ g) : ∀ (vs : List Value) (o : Nat) (w : World), (w.setCells g o vs).heap[k]? = w.heap[k]? := by
  intro vs
  induction vs with
  | nil => intro o w; rfl
  | cons v vs ih => intro o w; exact (ih (o + 1) _).trans (heap_setCell_other w _ k v hk)
theorem setCells_rest (g : Nat) : ∀ (vs : List Value) (o : Nat) (w : World), (w.setCells g o vs).heap.size = w.heap.size ∧ (w.setCells g o vs).os = w.os ∧ (w.setCells g o vs).tape = w.tape ∧ (w.setCells g o vs).output = w.output := by
  intro vs
  induction vs with
  | nil => intro o w; exact ⟨rfl, rfl, rfl, rfl⟩
  | cons v vs ih => intro o w; obtain ⟨a, b, c, d⟩ := ih (o + 1) (w.setCell ⟨g, o, none⟩ v); exact ⟨a.trans (by simp), b, c, d⟩
theorem there_of_block {w : World} {g : Nat} {t : TypeId} {cs : Array Value} (h : w.heap[g]? = some (.cells cs t (0, 0))) {o n : Nat} (hn : o + n ≤ cs.size) : w.there g o n := by
  intro j hj
  refine ⟨?_, frozen_of_row w g _ cs t h⟩
  rw [cell_of_row w g _ cs t _ h]
  simp [show o + j < cs.size by omega]
theorem rangeAt_of_block' {w : World} {g : Nat} {t : TypeId} {cs : Array Value} {fr : Nat × Nat} (h : w.heap[g]? = some (.cells cs t fr)) (o n : Nat) : w.rangeAt g o ((cs.toList.drop o).take n) := by
  intro j v hj
  rw [cell_of_row w g _ cs t _ h]
  rw [List.getElem?_take] at hj
  split at hj
  · rw [List.getElem?_drop] at hj; simpa using hj
  · cases hj
end Go.Proofs.Ytdhlbfhfenomcaa.Ab
