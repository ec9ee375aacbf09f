/- Structs and slices written out, maps, slicing, indexing, assertions, len, min, max. -/
import Derived.Test.YtdhlbfhfenomcaaAb4
namespace Go.Proofs.Ytdhlbfhfenomcaa.Ab
open Go Go.RowKit
set_option linter.unusedVariables false
set_option linter.unusedSimpArgs false

theorem foldl_put (off : Nat) : ∀ (vs : List Value) (k : Nat) (cs : Array Value), off + k + vs.length ≤ cs.size →
    ((vs.zipIdx k).foldl (fun cs (x : Value × Nat) => cs.setIfInBounds (off + x.2) x.1) cs).toList = cs.toList.take (off + k) ++ vs ++ cs.toList.drop (off + k + vs.length) := by
  intro vs
  induction vs with
  | nil => intro k cs h; simp
  | cons v vs ih =>
    intro k cs h
    simp only [List.length_cons] at h
    rw [List.zipIdx_cons, List.foldl_cons, ih (k + 1) _ (by simp; omega)]
    apply List.ext_getElem?
    intro i
    simp only [Array.toList_setIfInBounds, List.getElem?_append, List.length_append, List.length_take, List.length_set, List.getElem?_take, List.getElem?_set, List.getElem?_drop, List.length_cons, Array.length_toList]
    have e1 : min (off + (k + 1)) cs.size = off + k + 1 := by omega
    have e2 : min (off + k) cs.size = off + k := by omega
    rw [e1, e2]
    by_cases hi : i < off + k
    · simp [hi, show i < off + (k + 1) by omega, show i < off + k + 1 + vs.length by omega, show i < off + k + 1 by omega, show i < off + k + (vs.length + 1) by omega, show ¬ off + k = i by omega]
    · by_cases hi2 : i = off + k
      · subst hi2
        simp [show off + k < cs.size by omega, show off + k < off + (k + 1) by omega, show off + k < off + k + 1 + vs.length by omega]
      · by_cases hi3 : i < off + k + 1 + vs.length
        · simp [hi, hi3, show ¬ i < off + k + 1 by omega, show i < off + k + (vs.length + 1) by omega, show i - (off + k) = i - (off + k + 1) + 1 by omega]
        · simp [hi, hi3, show ¬ i < off + k + (vs.length + 1) by omega, show ¬ off + k = off + (k + 1) + vs.length + (i - (off + k + 1 + vs.length)) by omega]
          congr 1; omega
theorem fill_den {K : Ks} {φ : Ph} {ρ : Operand → Option AV} {ρc : Operand → Value} (hρ : ∀ x v, ρ x = some v → Den K φ v (ρc x)) {pa pc : Nat → Option (Nat × Nat)} (hp : ∀ i x, pa i = some x → pc i = some x) :
    ∀ {ps : List (Nat × Operand)} {vs : List (Nat × AV)} {cells l : List AV} {cs : Array Value}, evParts ρ ps = some vs → DenL K φ cells cs.toList → fillA pa cells vs = some l →
      ∃ ds : Array Value, Instr.fill pc cs (ps.map fun x => (x.1, ρc x.2)) = some ds ∧ DenL K φ l ds.toList := by
  intro ps
  induction ps with
  | nil => intro vs cells l cs h hd e; cases h; cases e; exact ⟨cs, rfl, hd⟩
  | cons p ps ih =>
    intro vs cells l cs h hd e
    obtain ⟨i, x⟩ := p
    unfold evParts at h
    split at h
    · rename_i v r hv hr
      cases h
      unfold fillA at e
      split at e
      · cases e
      · rename_i off size hpl
        split at e
        · rename_i hc
          obtain ⟨h1, h2⟩ := hc
          have dv := (hρ _ _ hv).cells
          have hsz : (ρc x).cells.size = size := by have := dv.1; simp at this; omega
          have hcl : cs.size = cells.length := by have := hd.1; simp at this; omega
          have hf := foldl_put off (ρc x).cells.toList 0 cs (by simp; omega)
          simp only [Nat.add_zero] at hf
          have hd' : DenL K φ (cells.take off ++ cellsOf v ++ cells.drop (off + size)) (((ρc x).cells.zipIdx.foldl (fun cs (x : Value × Nat) => cs.setIfInBounds (off + x.2) x.1) cs)).toList := by
            rw [← Array.foldl_toList, Array.toList_zipIdx, hf]
            have : (ρc x).cells.toList.length = size := by simp [hsz]
            rw [this]
            exact DenL.append (DenL.append (hd.take off) dv) (hd.drop _)
          obtain ⟨ds, h3, h4⟩ := ih hr hd' e
          refine ⟨ds, ?_, h4⟩
          simp only [List.map_cons, Instr.fill, hp _ _ hpl]
          rw [if_neg (by simp [hsz]; omega)]
          exact h3
        · cases e
    · cases h
theorem placesL_run {P : Program} {g : Field → Sem (Nat × Nat)} (hg : ∀ (f : Field) (n : Nat) (w : World), sizeT P f.type = some n → (g f).run P w = .ok (f.offset, n) w) :
    ∀ {fs : List Field} {pl : List (Nat × Nat)}, placesL P fs = some pl → ∀ w : World, (fs.mapM g).run P w = .ok pl w := by
  intro fs
  induction fs with
  | nil => intro pl h w; cases h; rfl
  | cons f fs ih =>
    intro pl h w
    unfold placesL at h
    split at h
    · rename_i n r hn hr
      cases h
      simp only [List.mapM_cons, Sem.run_bind, hg f n w hn, Result.andThen_ok, ih hr w, Sem.run_pure]
    · cases h

section ops
variable {P : Program} {B : Nat} {φ : Ph} {K : Ks} {h : List Blk} {w : World} {slot : Nat} {ρ : Operand → Option AV} {ρc : Operand → Value} {o : Oper} {r : Res}
theorem sim_build {t : TypeId} {ps : Array (Nat × Operand)} (ho : o.op = .build t ps) (hr : Rel B φ K h w) (hρ : ∀ x v, ρ x = some v → Den K φ v (ρc x)) (e : aop P ρ (fun b => h[b]?) slot o = some (true, r)) : Sim B φ K h w slot ((execOp ρc o).run P w) r := by
  simp only [aop, ho] at e
  have hps : (ps.map fun (x : Nat × Operand) => (x.1, ρc x.2)).toList = ps.toList.map fun x => (x.1, ρc x.2) := by simp
  split at e
  · rename_i z vs fs hz hv hu
    obtain ⟨zv, hzr, hzd⟩ := zeroT_run hz
    split at e
    · rename_i pl hpl
      split at e
      · rename_i l hl
        cases e
        obtain ⟨ds, h1, h2⟩ := fill_den (pc := fun i => pl.toArray[i]?) hρ (fun i x hx => by simpa using hx) hv ((ofV_den hzd K φ).cells) hl
        refine Sim.same hr (cv := .agg ds) ?_ (Den.agg_iff.2 ⟨_, rfl, h2⟩)
        have h1' : Instr.fill (fun i => pl.toArray[i]?) zv.cells (ps.map fun (x : Nat × Operand) => (x.1, ρc x.2)).toList = some ds := by rw [hps]; exact h1
        simp only [execOp, ho, Instr.build, Sem.run_bind, hzr w, run_underlying hu w, Result.andThen_ok, Array.mapM_eq_mapM_toList, Sem.run_map]
        rw [placesL_run (fun f n w hn => by simp only [Sem.run_bind, (sizeT_run hn).1 w, Result.andThen_ok, Sem.run_pure]) hpl w]
        simp only [Result.andThen_ok, h1', Sem.run_pure]
      · cases e
    · cases e
  · rename_i z vs len el hz hv hu
    obtain ⟨zv, hzr, hzd⟩ := zeroT_run hz
    split at e
    · rename_i n hn
      split at e
      · rename_i l hl
        cases e
        obtain ⟨ds, h1, h2⟩ := fill_den (pc := fun i => some (i * n, n)) hρ (fun i x hx => hx) hv ((ofV_den hzd K φ).cells) hl
        refine Sim.same hr (cv := .agg ds) ?_ (Den.agg_iff.2 ⟨_, rfl, h2⟩)
        have h1' : Instr.fill (fun i => some (i * n, n)) zv.cells (ps.map fun (x : Nat × Operand) => (x.1, ρc x.2)).toList = some ds := by rw [hps]; exact h1
        simp only [execOp, ho, Instr.build, Sem.run_bind, hzr w, run_underlying hu w, Result.andThen_ok, (sizeT_run hn).1 w]
        simp only [Result.andThen_ok, h1', Sem.run_pure]
      · cases e
    · cases e
  · cases e
/-- The cells of a new block become a row that nobody writes. -/
def plusK (K : Ks) (cb : Nat) (cs : Array Value) : Ks := fun b o => if b = cb then cs[o]? else K b o
theorem Rel.plus (hr : Rel B φ K h w) (cs : Array Value) (t : TypeId) (h1 : ∀ v ∈ cs.toList, v.oneCell' = true) : Rel B φ (plusK K w.heap.size cs) h (w.alloc (.cells cs t)) ∧ Ext φ K φ (plusK K w.heap.size cs) := by
  have hlt : ∀ b o v, K b o = some v → b ≠ w.heap.size := fun b o v hv e => by
    have := World.block_lt_of_cell? w _ (hr.stab b o v hv).1
    simp at this; omega
  refine ⟨(hr.grow (Grow.alloc _ _)).more (fun b o v hv => by unfold plusK; rw [if_neg (hlt b o v hv)]; exact hv) (fun cb o v hv => ?_), ⟨fun _ _ h => h, fun b o v hv => by unfold plusK; rw [if_neg (hlt b o v hv)]; exact hv⟩⟩
  unfold plusK at hv
  split at hv
  · rename_i e
    subst e
    refine .inr ⟨h1 v (List.mem_of_getElem? (by simpa using hv)), by rw [World.cell?_alloc_at _ _ _ _ rfl]; exact hv, fun i b g hb hl hg e => ?_⟩
    have := (hr.own i b g hb hl hg).2
    omega
  · exact .inl hv
theorem plusK_new (K : Ks) (cb : Nat) (cs : Array Value) (hB : B ≤ cb) : KN B K (plusK K cb cs) := by
  intro c o v hv
  unfold plusK at hv
  split at hv
  · rename_i e; exact .inr (by rw [e]; exact hB)
  · exact .inl hv
theorem range_map_flatten (zc : Array Value) (len n : Nat) (hz : zc.size = n) (hn : 0 < n) : ((Array.range (len * n)).map fun i => zc[i % zc.size]!).toList = (List.replicate len zc.toList).flatten := by
  subst hz
  apply List.ext_getElem
  · simp
  · intro i h1 h2
    simp at h1
    simp only [Array.toList_map, List.getElem_map, Array.toList_range, List.getElem_range]
    have hlt : i % zc.size < zc.size := Nat.mod_lt _ hn
    have e : ∀ (m i : Nat) (h : i < (List.replicate m zc.toList).flatten.length), (List.replicate m zc.toList).flatten[i] = zc[i % zc.size]'(Nat.mod_lt _ hn) := by
      intro m
      induction m with
      | zero => intro i h; simp at h
      | succ m ih =>
        intro i h
        simp only [List.replicate_succ, List.flatten_cons] at h ⊢
        by_cases hi : i < zc.toList.length
        · rw [List.getElem_append_left hi]
          simp only [Array.length_toList] at hi
          simp [Nat.mod_eq_of_lt hi]
        · rw [List.getElem_append_right (by omega)]
          rw [ih]
          simp only [Array.length_toList] at hi ⊢
          congr 1
          rw [← Nat.mod_eq_sub_mod (by omega)]
    rw [e]
    simp [getElem!_pos, hlt]
theorem sim_buildSlice {t : TypeId} {len : Nat} {ps : Array (Nat × Operand)} (ho : o.op = .buildSlice t len ps) (hr : Rel B φ K h w) (hs : slot ≤ h.length) (hφ : φ slot = none) (hρ : ∀ x v, ρ x = some v → Den K φ v (ρc x)) (e : aop P ρ (fun b => h[b]?) slot o = some (true, r)) : Sim B φ K h w slot ((execOp ρc o).run P w) r := by
  simp only [aop, ho] at e
  have hps : (ps.map fun (x : Nat × Operand) => (x.1, ρc x.2)).toList = ps.toList.map fun x => (x.1, ρc x.2) := by simp
  split at e
  · rename_i el hu
    split at e
    · rename_i n z vs hn hz hv
      obtain ⟨zv, hzr, hzd⟩ := zeroT_run hz
      split at e
      · rename_i l hl
        split at e
        · rename_i hc
          obtain ⟨c1, c2, c3, c4, c5⟩ := hc
          have dz := (ofV_den hzd K φ).cells
          have hzs : zv.cells.size = n := by have := dz.1; simp at this; omega
          have dfl : ∀ m : Nat, DenL K φ (List.replicate m (cellsOf z)).flatten (List.replicate m zv.cells.toList).flatten := by
            intro m
            induction m with
            | zero => exact DenL.nil _ _
            | succ m ih => simp only [List.replicate_succ, List.flatten_cons]; exact DenL.append dz ih
          have dcs : DenL K φ (List.replicate len (cellsOf z)).flatten ((Array.range (len * n)).map fun i => zv.cells[i % zv.cells.size]!).toList := by
            rw [range_map_flatten zv.cells len n hzs c4]; exact dfl len
          obtain ⟨ds, h1, h2⟩ := fill_den (pc := fun i => some (i * n, n)) hρ (fun i x hx => hx) hv dcs hl
          have h1' : Instr.fill (fun i => some (i * n, n)) ((Array.range (len * n)).map fun i => zv.cells[i % zv.cells.size]!) (ps.map fun (x : Nat × Operand) => (x.1, ρc x.2)).toList = some ds := by rw [hps]; exact h1
          have hrun : (execOp ρc o).run P w = .ok (.value (.slice (some ⟨w.heap.size, 0, none⟩) len len)) (w.alloc (.cells ds el)) := by
            have hbig : ¬ (len * n > 2 ^ 24) := by omega
            by_cases h0 : len * n = 0
            · rw [h0] at h1'
              simp only [execOp, ho, Instr.buildSlice, Sem.run_bind, run_underlying hu w, Result.andThen_ok, (sizeT_run hn).1 w, h0, if_true, Sem.run_pure, show ¬ (0 > 2 ^ 24) by omega, if_false, List.size_toArray]
              have : ((Array.range 0).map fun i => (#[] : Array Value)[i % (#[] : Array Value).size]!) = ((Array.range 0).map fun i => zv.cells[i % zv.cells.size]!) := by simp
              simp only [List.size_toArray, List.length_nil] at this
              simp only [List.length_nil, this, h1', newRow, Sem.run_bind, run_newObj, Sem.run_pure, World.alloc_eq, Result.andThen_ok]
            · simp only [execOp, ho, Instr.buildSlice, Sem.run_bind, run_underlying hu w, Result.andThen_ok, (sizeT_run hn).1 w, h0, hbig, if_false, Sem.run_pure, hzr w, h1', newRow, run_newObj, World.alloc_eq]
          have hll : l.length = len * n := by
            have := h2.1
            have hfl : ∀ {cells l : List AV} {vs : List (Nat × AV)} {pa : Nat → Option (Nat × Nat)}, fillA pa cells vs = some l → l.length = cells.length := by
              intro cells l vs pa
              induction vs generalizing cells with
              | nil => intro e; cases e; rfl
              | cons v vs ih =>
                intro e
                obtain ⟨i, v⟩ := v
                unfold fillA at e
                split at e
                · cases e
                · split at e
                  · rename_i hc; rw [ih e]; simp; omega
                  · cases e
            rw [hfl hl]; simp [c2]
          have hdl : ds.size = len * n := by have := h2.1; simp at this; omega
          cases hp : AV.pureL (AV.stripL l) with
          | true =>
            rw [hp] at e
            cases e
            obtain ⟨p1, p2⟩ := hr.plus ds el (h2.one c5)
            have hd : DenL (plusK K w.heap.size ds) (fun _ => none) (AV.stripL l) ds.toList := ((h2.mono p2).strip).pure hp _
            have hone : ∀ (i : Nat) (u : AV), (AV.stripL l)[i]? = some u → cellsOf u = [u] := by
              have : ∀ l : List AV, oneL l = true → ∀ (i : Nat) (u : AV), (AV.stripL l)[i]? = some u → cellsOf u = [u] := by
                intro l
                induction l with
                | nil => intro _ i u hu; cases hu
                | cons a l ih =>
                  intro ho i u hu
                  simp only [oneL, Bool.and_eq_true] at ho
                  cases i with
                  | zero => simp [AV.stripL] at hu; subst hu; cases a <;> simp [AV.one, AV.strip, cellsOf] at ho ⊢
                  | succ i => exact ih ho.2 i u (by simpa [AV.stripL] using hu)
              exact this l c5
            have hsl : (AV.stripL l).length = len * n := by rw [stripL_length]; exact hll
            have hcell : ∀ j, j < len → cellsOf (chunk (isAggT P el) n (AV.stripL l) j) = ((AV.stripL l).drop (j * n)).take n := by
              intro j hj
              have hjn : j * n + n ≤ len * n := by rw [← Nat.succ_mul]; exact Nat.mul_le_mul_right _ hj
              unfold chunk
              cases ha : isAggT P el with
              | true => rfl
              | false =>
                rw [ha] at c3
                have : n = 1 := by simpa using c3
                subst this
                have hlt : j < (AV.stripL l).length := by omega
                have hg : (AV.stripL l)[j]? = some (AV.stripL l)[j] := by simp
                show cellsOf ((AV.stripL l).getD j (.tup [])) = _
                rw [List.getD_eq_getElem?_getD, hg]
                simp only [Option.getD_some]
                rw [hone j _ hg, Nat.mul_one, List.drop_eq_getElem_cons hlt]
                rfl
            have hidx : ∀ j l', j < len → l' < n → j * n + l' < len * n := fun j l' hj hl' => by
              have : j * n + n ≤ len * n := by rw [← Nat.succ_mul]; exact Nat.mul_le_mul_right _ hj
              omega
            refine ⟨_, φ, plusK K w.heap.size ds, _, hrun, p2, plusK_new K w.heap.size ds hr.base, p1, (Grow.alloc _ _).toBelow hr.base, fun _ _ => rfl, .inl ⟨_, rfl, ?_⟩⟩
            refine .ros _ true len _ w.heap.size 0 n len (fun j l' => ds.getD (j * n + l') undef) (Nat.le_refl _) (fun _ => rfl) (fun j hj => ?_) (fun j l' u hj hu => ?_) (fun j l' u hj hu => ?_)
            · rw [hcell j hj]
              have : j * n + n ≤ len * n := by rw [← Nat.succ_mul]; exact Nat.mul_le_mul_right _ hj
              simp; omega
            · rw [hcell j hj, List.getElem?_take] at hu
              split at hu
              · rename_i hlt
                unfold plusK
                rw [if_pos rfl, Nat.zero_add]
                have := hidx j l' hj hlt
                simp [show j * n + l' < ds.size by omega]
              · cases hu
            · rw [hcell j hj, List.getElem?_take] at hu
              split at hu
              · rename_i hlt
                rw [List.getElem?_drop] at hu
                have := hidx j l' hj hlt
                have hlt2 : j * n + l' < ds.size := by omega
                have hg : ds.getD (j * n + l') undef = ds[j * n + l'] := by simp [hlt2]
                rw [hg]
                exact hd.2 _ _ _ hu (by simp [hlt2])
              · cases hu
          | false =>
            rw [hp] at e
            cases e
            have g : Grow w (w.alloc (.cells ds el)) := Grow.alloc _ _
            refine ⟨_, upd φ slot ⟨w.heap.size, 0, 0⟩, K, _, hrun, upd_ext _ hφ, KN.refl _ _, ?_, g.toBelow hr.base, fun i hi => by unfold upd; rw [if_neg hi], .inl ⟨_, rfl, .lsl _ _ _ ⟨w.heap.size, 0, 0⟩ _ (upd_same _ _ _) (Nat.le_refl _)⟩⟩
            refine (hr.grow g).fill hs hφ _ _ ⟨ds, el, heap_alloc_new _ _, h2.mono (upd_ext _ hφ)⟩ hr.base rfl (fun i b k hb hl hk e => ?_) (fun o v hv => ?_)
            · have := (hr.own i b k hb hl hk).2; simp only at e; omega
            · obtain ⟨h1, _⟩ := hr.stab _ _ _ hv
              have := World.block_lt_of_cell? w _ h1
              simp at this
        · cases e
      · cases e
    · cases e
  · cases e
end ops
end Go.Proofs.Ytdhlbfhfenomcaa.Ab
