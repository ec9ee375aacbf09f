/- The operations one by one: where the abstract operation answers, the model's comes to what is said. -/
import Derived.Test.YtdhlbfhfenomcaaAb2
namespace Go.Proofs.Ytdhlbfhfenomcaa.Ab
open Go Go.RowKit
set_option linter.unusedVariables false
set_option linter.unusedSimpArgs false

/-- What an operation comes to. -/
def Sim (B : Nat) (φ : Ph) (K : Ks) (h : List Blk) (w : World) (slot : Nat) (x : Result Next) (r : Res) : Prop :=
  ∃ n φ' K' w', x = .ok n w' ∧ Ext φ K φ' K' ∧ KN B K K' ∧ Rel B φ' K' (applyWr h r.wr) w' ∧ Below B w w' ∧ (∀ i, i ≠ slot → φ' i = φ i) ∧
    ((∃ cv, n = .value cv ∧ Den K' φ' r.v cv) ∨ (n = .skip ∧ r.v = .tup []))
theorem Sim.same {B : Nat} {φ : Ph} {K : Ks} {h : List Blk} {w : World} {slot : Nat} {x : Result Next} {v : AV} {rd : List Nat} {cv : Value} (hr : Rel B φ K h w) (hx : x = .ok (.value cv) w) (hd : Den K φ v cv) : Sim B φ K h w slot x ⟨v, rd, []⟩ :=
  ⟨_, φ, K, w, hx, Ext.refl _ _, KN.refl _ _, hr, Below.refl _ _, fun _ _ => rfl, .inl ⟨cv, rfl, hd⟩⟩

theorem sizeT_run {P : Program} {t : TypeId} {n : Nat} (h : sizeT P t = some n) : (∀ w : World, (sizeOf t).run P w = .ok n w) ∧ (P.info? t).map (·.size) = some n := by
  unfold sizeT at h
  cases hi : P.info? t with
  | none => rw [hi] at h; cases h
  | some i =>
    rw [hi] at h; cases h
    exact ⟨fun w => by simp [sizeOf, typeInfo, hi], by simp⟩
theorem zeroT_run {P : Program} {t : TypeId} {z : AV} (h : zeroT P t = some z) : ∃ v, (∀ w : World, (zeroValue t).run P w = .ok v w) ∧ ofV v = some z := by
  unfold zeroT at h
  cases hi : P.info? t with
  | none => rw [hi] at h; cases h
  | some i =>
    rw [hi] at h
    cases hz : i.zero with
    | none => simp [hz] at h
    | some v => simp only [hz] at h; exact ⟨v, fun w => by simp [zeroValue, typeInfo, hi, hz], h⟩
theorem isAgg_run {P : Program} {t : TypeId} {d : TypeDesc} (h : P.underlying t = some d) (w : World) : (isAgg t).run P w = .ok (match d with | .struct _ | .array _ _ => true | _ => false) w := by
  unfold isAgg
  rw [Sem.run_bind, run_underlying h w]
  cases d <;> simp

theorem DenL.one {K : Ks} {φ : Ph} {l : List AV} {cs : List Value} (h : DenL K φ l cs) (ho : oneL l = true) : ∀ v ∈ cs, v.oneCell' = true := by
  have key : ∀ (l : List AV), oneL l = true → ∀ (i : Nat) (u : AV), l[i]? = some u → u.one = true := by
    intro l
    induction l with
    | nil => intro _ i u hu; cases hu
    | cons a l ih =>
      intro h i u hu
      simp only [oneL, Bool.and_eq_true] at h
      cases i with
      | zero => cases hu; exact h.1
      | succ i => exact ih h.2 i u (by simpa using hu)
  intro v hv
  obtain ⟨i, hi, rfl⟩ := List.getElem_of_mem hv
  have hi' : i < l.length := by rw [h.1]; exact hi
  have hd := h.2 i l[i] cs[i] (by simp) (by simp)
  have ho' := key l ho i l[i] (by simp)
  revert hd ho'
  generalize l[i] = u
  generalize cs[i] = c
  intro hd ho'
  cases hd with
  | osl _ b n f _ h _ => cases h <;> rfl
  | agg => simp [AV.one] at ho'
  | tup => simp [AV.one] at ho'
  | _ => rfl

/-- Cells put together by their type. -/
theorem ofCells_load {P : Program} {K : Ks} {φ : Ph} {t : TypeId} {l : List AV} {a : AV} {cs : List Value} {w : World} {b o n : Nat} (h : ofCells P t l = some a) (hd : DenL K φ l cs) (hn : sizeT P t = some n) (hl : l.length = n)
    (hc : w.rangeAt b o cs) : ∃ cv, (loadVar t ⟨b, o, none⟩).run P w = .ok cv w ∧ Den K φ a cv := by
  have hcs : cs.length = n := by rw [← hd.1]; exact hl
  obtain ⟨_, hi⟩ := sizeT_run hn
  unfold ofCells at h
  cases hu : P.underlying t with
  | none => rw [hu] at h; cases h
  | some d =>
    rw [hu] at h
    by_cases hrow : d.isRow = true
    · have ha : a = .agg l := by cases d <;> simp_all
      subst ha
      exact ⟨_, run_loadVar_mid w b o t cs d hc hu hrow (by rw [hi, hcs]), Den.agg_iff.2 ⟨_, rfl, by simpa using hd⟩⟩
    · obtain ⟨v, hv⟩ : ∃ v, l = [v] ∧ a = v := by
        cases d <;> simp_all <;> (split at h <;> simp_all)
      obtain ⟨rfl, rfl⟩ := hv
      cases cs with
      | nil => simp [DenL] at hd
      | cons c cs =>
        have : cs = [] := by have := hd.1; simp at this; exact this
        subst this
        have h0 : w.cell? ⟨b, o, none⟩ = some c := by simpa using hc 0 c rfl
        refine ⟨c, ?_, hd.2 0 _ _ rfl rfl⟩
        have hag : (isAgg t).run P w = .ok false w := by
          rw [isAgg_run hu]; cases d <;> simp_all
        simp [loadVar, hag, h0]
/-- Cells of a value put together by their type. -/
theorem ofCells_part {P : Program} {K : Ks} {φ : Ph} {t : TypeId} {l : List AV} {a : AV} {cs : Array Value} {o n : Nat} (h : ofCells P t ((l.drop o).take n) = some a) (hd : DenL K φ l cs.toList) (hn : sizeT P t = some n) (hl : o + n ≤ l.length) (w : World) :
    ∃ cv, (part t cs o).run P w = .ok cv w ∧ Den K φ a cv := by
  obtain ⟨hsz, hi⟩ := sizeT_run hn
  have hlen : cs.size = l.length := by have := hd.1; simp at this; omega
  unfold ofCells at h
  cases hu : P.underlying t with
  | none => rw [hu] at h; cases h
  | some d =>
    rw [hu] at h
    have hdd := (hd.drop o).take n
    by_cases hrow : d.isRow = true
    · have ha : a = .agg ((l.drop o).take n) := by cases d <;> simp_all
      have hag : (isAgg t).run P w = .ok true w := by
        rw [isAgg_run hu]; cases d <;> simp_all
      subst ha
      refine ⟨.agg (cs.extract o (o + n)), by simp [part, hag, hsz], Den.agg_iff.2 ⟨_, rfl, ?_⟩⟩
      simpa [Array.toList_extract, List.extract_eq_take_drop] using hdd
    · obtain ⟨v, hv⟩ : ∃ v, (l.drop o).take n = [v] ∧ a = v := by
        cases d <;> simp_all <;> (split at h <;> simp_all)
      obtain ⟨hv, rfl⟩ := hv
      have hag : (isAgg t).run P w = .ok false w := by
        rw [isAgg_run hu]; cases d <;> simp_all
      have h1 : n = 1 := by have := congrArg List.length hv; simp at this; omega
      subst h1
      have h0 : l[o]? = some a := by
        have := congrArg (·[0]?) hv
        simp only [List.getElem?_take, List.getElem?_drop] at this
        simpa using this
      have hc : cs[o]? = some cs[o] := by simp [show o < cs.size by omega]
      exact ⟨cs[o], by simp [part, hag, hc], hd.2 o _ _ h0 (by simp)⟩

section ops
variable {P : Program} {B : Nat} {φ : Ph} {K : Ks} {h : List Blk} {w : World} {slot : Nat} {ρ : Operand → Option AV} {ρc : Operand → Value} {o : Oper} {r : Res}

theorem sim_move {x : Operand} (ho : o.op = .move x ∨ o.op = .assign x) (hr : Rel B φ K h w) (hρ : ∀ x v, ρ x = some v → Den K φ v (ρc x)) (e : aop P ρ (fun b => h[b]?) slot o = some (true, r)) : Sim B φ K h w slot ((execOp ρc o).run P w) r := by
  rcases ho with ho | ho
  all_goals
    simp only [aop, ho] at e
    cases hx : ρ x with
    | none => rw [hx] at e; cases e
    | some a =>
      rw [hx] at e; cases e
      exact Sim.same hr (by simp [execOp, ho]) (hρ x a hx)
theorem sim_pick {c x y : Operand} (ho : o.op = .pick c x y) (hr : Rel B φ K h w) (hρ : ∀ x v, ρ x = some v → Den K φ v (ρc x)) (e : aop P ρ (fun b => h[b]?) slot o = some (true, r)) : Sim B φ K h w slot ((execOp ρc o).run P w) r := by
  simp only [aop, ho] at e
  split at e
  · rename_i t a b hc hx hy
    cases e
    have dc := hρ _ _ hc
    have dx := hρ _ _ hx
    have dy := hρ _ _ hy
    generalize hcc : ρc c = cc at dc
    cases dc
    refine Sim.same (cv := if t then ρc x else ρc y) hr (by simp [execOp, ho, hcc, asBool]) ?_
    have hp : pickA t a b = if t then a else b := by
      unfold pickA
      split
      · cases t <;> rfl
      · cases t <;> rfl
    rw [hp]
    cases t
    · simpa using dy
    · simpa using dx
  · cases e
theorem sim_alloc_gen {z : AV} {cv : Value} {rd : List Nat} (t : TypeId) (hr : Rel B φ K h w) (hs : slot ≤ h.length) (hφ : φ slot = none) (hz : Den K φ z cv)
    (hx : (execOp ρc o).run P w = .ok (.value (.pointer (some ⟨w.heap.size, 0, none⟩))) (w.alloc (.cells cv.cells t))) : Sim B φ K h w slot ((execOp ρc o).run P w) ⟨.ptr slot 0, rd, [(slot, .cells (cellsOf z))]⟩ := by
  have g : Grow w (w.alloc (.cells cv.cells t)) := Grow.alloc _ _
  refine ⟨_, upd φ slot ⟨w.heap.size, 0, 0⟩, K, _, hx, upd_ext _ hφ, KN.refl _ _, ?_, g.toBelow hr.base, fun i hi => by unfold upd; rw [if_neg hi], .inl ⟨_, rfl, .ptr _ _ _ ⟨w.heap.size, 0, 0⟩ (upd_same _ _ _)⟩⟩
  refine (hr.grow g).fill hs hφ _ _ ⟨cv.cells, t, ?_, (hz.cells).mono (upd_ext _ hφ)⟩ hr.base rfl (fun i b k hb hl hk e => ?_) (fun o v hv => ?_)
  · exact heap_alloc_new _ _
  · have := (hr.own i b k hb hl hk).2; simp only at e; omega
  · obtain ⟨h1, _⟩ := hr.stab _ _ _ hv
    have := World.block_lt_of_cell? w _ h1
    simp at this
theorem sim_alloc {t : TypeId} (ho : o.op = .alloc t) (hr : Rel B φ K h w) (hs : slot ≤ h.length) (hφ : φ slot = none) (e : aop P ρ (fun b => h[b]?) slot o = some (true, r)) : Sim B φ K h w slot ((execOp ρc o).run P w) r := by
  simp only [aop, ho] at e
  split at e
  · rename_i z hz
    cases e
    obtain ⟨v, hv, hd⟩ := zeroT_run hz
    refine sim_alloc_gen (cv := v) t hr hs hφ (ofV_den hd K φ) ?_
    simp [execOp, ho, Instr.alloc, hv, newVar, newRow]
  · cases e
theorem sim_box {t : TypeId} {x : Operand} (ho : o.op = .box t x) (hr : Rel B φ K h w) (hs : slot ≤ h.length) (hφ : φ slot = none) (hρ : ∀ x v, ρ x = some v → Den K φ v (ρc x)) (e : aop P ρ (fun b => h[b]?) slot o = some (true, r)) : Sim B φ K h w slot ((execOp ρc o).run P w) r := by
  simp only [aop, ho] at e
  split at e
  · rename_i z hz
    cases e
    refine sim_alloc_gen (cv := ρc x) t hr hs hφ (hρ _ _ hz) ?_
    simp [execOp, ho, Instr.box, newVar, newRow]
  · cases e
theorem sim_load {t : TypeId} {x : Operand} (ho : o.op = .load t x) (hr : Rel B φ K h w) (hρ : ∀ x v, ρ x = some v → Den K φ v (ρc x)) (e : aop P ρ (fun b => h[b]?) slot o = some (true, r)) : Sim B φ K h w slot ((execOp ρc o).run P w) r := by
  simp only [aop, ho] at e
  split at e
  · rename_i b off n hx hn
    split at e
    · rename_i l hl
      split at e
      · rename_i hle
        split at e
        · rename_i a ha
          cases e
          have dx := hρ _ _ hx
          generalize hcx : ρc x = cx at dx
          cases dx with
          | ptr _ _ _ g hg =>
            obtain ⟨cvs, t', hb, hd⟩ := hr.blk b _ g hl hg
            obtain ⟨cv, h1, h2⟩ := ofCells_load ha ((hd.drop off).take n) hn (by simp; omega) (rangeAt_of_block' hb off n)
            exact Sim.same hr (by simp [execOp, ho, hcx, Instr.loadAt, Instr.sureAddr, h1]) h2
        · cases e
      · cases e
    · cases e
  · rename_i m f i c n hx hn
    have dx := hρ _ _ hx
    generalize hcx : ρc x = cx at dx
    cases dx with
    | rop _ _ _ _ _ cb oo esz cv hi hl hk hd =>
      have hdl : DenL K (fun _ => none) (cellsOf (f i)) ((List.range esz).map (cv i)) := by
        refine ⟨by simp [hl i hi], fun l u v hu hv => ?_⟩
        have hlt : l < esz := by rw [← hl i hi]; rcases Nat.lt_or_ge l (cellsOf (f i)).length with h' | h'; exact h'; simp [List.getElem?_eq_none h'] at hu
        have : v = cv i l := by simp [hlt] at hv; exact hv.symm
        rw [this]; exact hd i l u hi hu
      have hrange : w.rangeAt cb (oo + i * esz) ((List.range esz).map (cv i)) := by
        intro j v hv
        have hlt : j < esz := by rcases Nat.lt_or_ge j esz with h' | h'; exact h'; simp [h'] at hv
        have hu : (cellsOf (f i))[j]? = some ((cellsOf (f i))[j]'(by rw [hl i hi]; exact hlt)) := by simp [hl i hi, hlt]
        have := hk i j _ hi hu
        have hv' : v = cv i j := by simp [hlt] at hv; exact hv.symm
        rw [hv']; exact (hr.stab _ _ _ this).1
      have key : ∀ l a, cellsOf (f i) = l → c + n ≤ l.length → ofCells P t ((l.drop c).take n) = some a → Sim B φ K h w slot ((execOp ρc o).run P w) ⟨a, [], []⟩ := by
        intro l a hl' hle ha
        rw [hl'] at hdl
        have hr2 : w.rangeAt cb (oo + i * esz + c) ((((List.range esz).map (cv i)).drop c).take n) := by
          intro j v hv
          rw [List.getElem?_take] at hv
          split at hv
          · rw [List.getElem?_drop] at hv
            have := hrange (c + j) v hv
            rwa [← Nat.add_assoc] at this
          · cases hv
        obtain ⟨v, h1, h2⟩ := ofCells_load ha ((hdl.drop c).take n) hn (by simp; omega) hr2
        have h3 : Den K φ a v := h2.mono ⟨fun _ _ h => (by cases h), fun _ _ _ h => h⟩
        exact Sim.same hr (by simp [execOp, ho, hcx, Instr.loadAt, Instr.sureAddr, h1]) h3
      split at e
      · rename_i l hfl
        split at e
        · rename_i hle
          split at e
          · rename_i a ha; cases e; exact key l a (by rw [hfl]; rfl) hle ha
          · cases e
        · cases e
      · rename_i hna
        split at e
        · rename_i hc
          split at e
          · rename_i a ha
            cases e
            have hcell : cellsOf (f i) = [f i] := by
              unfold cellsOf
              split
              · rename_i l hfl; exact absurd hfl (by intro h'; exact hna l h')
              · rfl
            obtain ⟨rfl, rfl⟩ := hc
            exact key [f i] a hcell (by simp) (by simpa using ha)
          · cases e
        · cases e
  · cases e
theorem sim_store {t : TypeId} {x y : Operand} (ho : o.op = .store t x y) (hr : Rel B φ K h w) (hρ : ∀ x v, ρ x = some v → Den K φ v (ρc x)) (e : aop P ρ (fun b => h[b]?) slot o = some (true, r)) : Sim B φ K h w slot ((execOp ρc o).run P w) r := by
  simp only [aop, ho] at e
  split at e
  · rename_i b off a n hx hy hn
    split at e
    · rename_i l hl
      split at e
      · rename_i hle
        obtain ⟨h1, h2, h3⟩ := hle
        cases e
        have dx := hρ _ _ hx
        have dy := (hρ _ _ hy).cells
        generalize hcx : ρc x = cx at dx
        cases dx with
        | ptr _ _ _ g hg =>
          obtain ⟨cvs, t', hb, hd⟩ := hr.blk b _ g hl hg
          have hlen : (ρc y).cells.toList.length = n := by rw [← dy.1]; exact h2
          have hlen' : (ρc y).cells.size = n := by simpa using hlen
          have hcs : cvs.toList.length = l.length := hd.1.symm
          have hsz : off + (ρc y).cells.toList.length ≤ cvs.size := by rw [hlen]; simp at hcs; omega
          obtain ⟨hsz0, hi⟩ := sizeT_run hn
          have hrun : (storeVar t ⟨g.cb, off, none⟩ (ρc y)).run P w = .ok () (w.setCells g.cb off (ρc y).cells.toList) := by
            have hth := there_of_block hb hsz
            have := run_storeCells_cells (P := P) g.cb off (ρc y).cells.toList 0 w (fun j hj => by simpa using (hth j hj).1) (fun j hj => by simpa using (hth j hj).2) (dy.one h3)
            simp only [Nat.add_zero] at this
            simp [storeVar, hsz0, hlen', this]
          obtain ⟨ds, hb', hds⟩ := heap_setCells g.cb t' (ρc y).cells.toList off w cvs hb hsz
          obtain ⟨r1, r2, r3, r4⟩ := setCells_rest g.cb (ρc y).cells.toList off w
          have hgB := (hr.own b _ g hl rfl hg).1
          refine ⟨.skip, φ, K, _, by simp [execOp, ho, hcx, Instr.storeAt, Instr.sureAddr, hrun], Ext.refl _ _, KN.refl _ _, ?_, ⟨r2, r3, r4, by rw [r1]; exact Nat.le_refl _, fun k hk => heap_setCells_other g.cb k (by omega) _ _ _⟩, fun _ _ => rfl, .inr ⟨rfl, rfl⟩⟩
          refine hr.write hl rfl (by simp) hg _ ⟨ds, t', hb', ?_⟩ rfl (by simp) r1 (fun k hk => heap_setCells_other g.cb k hk _ _ _)
          rw [hds, hlen]
          exact (DenL.append (DenL.append (hd.take off) dy) (hd.drop _))
      · cases e
    · cases e
  · cases e
theorem sim_nilCheck {x : Operand} (ho : o.op = .nilCheck x) (hr : Rel B φ K h w) (hρ : ∀ x v, ρ x = some v → Den K φ v (ρc x)) (e : aop P ρ (fun b => h[b]?) slot o = some (true, r)) : Sim B φ K h w slot ((execOp ρc o).run P w) r := by
  simp only [aop, ho] at e
  split at e
  · rename_i b c hx; cases e
    have dx := hρ _ _ hx
    generalize hcx : ρc x = cx at dx
    have dx' := dx
    cases dx
    exact Sim.same hr (by simp [execOp, ho, hcx]) dx'
  · rename_i n f i c hx; cases e
    have dx := hρ _ _ hx
    generalize hcx : ρc x = cx at dx
    have dx' := dx
    cases dx
    exact Sim.same hr (by simp [execOp, ho, hcx]) dx'
  · rename_i g a b hx; cases e
    have dx := hρ _ _ hx
    generalize hcx : ρc x = cx at dx
    have dx' := dx
    cases dx
    exact Sim.same hr (by simp [execOp, ho, hcx]) dx'
  · cases e
theorem sim_unOp {op : UnOp} {t : TypeId} {x : Operand} (ho : o.op = .unOp op t x) (hr : Rel B φ K h w) (hρ : ∀ x v, ρ x = some v → Den K φ v (ρc x)) (e : aop P ρ (fun b => h[b]?) slot o = some (true, r)) : Sim B φ K h w slot ((execOp ρc o).run P w) r := by
  simp only [aop, ho] at e
  split at e
  · rename_i a hx
    have dx := hρ _ _ hx
    generalize hcx : ρc x = cx at dx
    cases hu : aun op a with
    | none => rw [hu] at e; cases e
    | some v =>
      rw [hu] at e; cases e
      unfold aun at hu
      split at hu
      · cases hu; cases dx
        exact Sim.same hr (by simp [execOp, ho, hcx, Op.unary, Op.intArith]) (.int ..)
      · cases hu; cases dx
        exact Sim.same hr (by simp [execOp, ho, hcx, Op.unary]) (.bool ..)
      · cases hu
  · cases e
theorem sim_convert {s t : TypeId} {x : Operand} (ho : o.op = .convert s t x) (hr : Rel B φ K h w) (hρ : ∀ x v, ρ x = some v → Den K φ v (ρc x)) (e : aop P ρ (fun b => h[b]?) slot o = some (true, r)) : Sim B φ K h w slot ((execOp ρc o).run P w) r := by
  simp only [aop, ho] at e
  split at e
  · rename_i d k k' n hs ht hx
    cases e
    have dx := hρ _ _ hx
    generalize hcx : ρc x = cx at dx
    cases dx
    refine Sim.same hr ?_ (.int ..)
    simp only [execOp, ho, hcx, convert, Sem.run_bind, run_underlying hs w, run_underlying ht w, Result.andThen_ok]
    cases d <;> simp [Conv.intToInt]
  · cases e
theorem sim_makeInterface {t : TypeId} {x : Operand} (ho : o.op = .makeInterface t x) (hr : Rel B φ K h w) (hρ : ∀ x v, ρ x = some v → Den K φ v (ρc x)) (e : aop P ρ (fun b => h[b]?) slot o = some (true, r)) : Sim B φ K h w slot ((execOp ρc o).run P w) r := by
  simp only [aop, ho] at e
  split at e
  · cases e
  · rename_i d a hni ht hx
    cases e
    refine Sim.same hr (cv := .iface t (ρc x)) ?_ (.ifc _ _ _ _ (hρ _ _ hx))
    simp only [execOp, ho, Instr.makeInterface, Sem.run_bind, run_underlying ht w, Result.andThen_ok]
    cases d <;> simp_all
  · cases e
theorem evs2_den (hρ : ∀ x v, ρ x = some v → Den K φ v (ρc x)) : ∀ {l : List Operand} {vs : List AV}, aop.evs2 ρ l = some vs → DenL K φ vs (l.map ρc) := by
  intro l
  induction l with
  | nil => intro vs hv; cases hv; exact DenL.nil _ _
  | cons x l ih =>
    intro vs hv
    unfold aop.evs2 at hv
    split at hv
    · rename_i u us hu hus; cases hv; exact DenL.cons (hρ _ _ hu) (ih hus)
    · cases hv
theorem sim_makeFunc {f : Fn} {a b : Array Operand} (ho : o.op = .makeFunc f a b) (hr : Rel B φ K h w) (hρ : ∀ x v, ρ x = some v → Den K φ v (ρc x)) (e : aop P ρ (fun b => h[b]?) slot o = some (true, r)) : Sim B φ K h w slot ((execOp ρc o).run P w) r := by
  simp only [aop, ho] at e
  split at e
  · rename_i l m hl hm
    cases e
    have d1 := evs2_den hρ hl
    have d2 := evs2_den hρ hm
    refine Sim.same hr (cv := .func f (a.map ρc) (b.map ρc)) (by simp [execOp, ho, Instr.makeFunc]) (.fn _ _ _ _ _ _ (by have := d1.1; simpa using this) (fun i u v hu hv => d1.2 i u v hu (by simpa [← Array.getElem?_toList] using hv)) (by have := d2.1; simpa using this) (fun i u v hu hv => d2.2 i u v hu (by simpa [← Array.getElem?_toList] using hv)))
  · cases e
theorem sim_makeMap {t : TypeId} (ho : o.op = .makeMap t none) (hr : Rel B φ K h w) (hs : slot ≤ h.length) (hφ : φ slot = none) (e : aop P ρ (fun b => h[b]?) slot o = some (true, r)) : Sim B φ K h w slot ((execOp ρc o).run P w) r := by
  simp only [aop, ho] at e
  cases e
  have g : Grow w (w.alloc (.map #[] 0)) := Grow.alloc _ _
  refine ⟨_, upd φ slot ⟨w.heap.size, 0, 0⟩, K, _, (by simp [execOp, ho, Instr.makeMap]), upd_ext _ hφ, KN.refl _ _, ?_, g.toBelow hr.base, fun i hi => by unfold upd; rw [if_neg hi], .inl ⟨_, rfl, .map _ _ ⟨w.heap.size, 0, 0⟩ (upd_same _ _ _)⟩⟩
  refine (hr.grow g).fill hs hφ _ _ ⟨#[], 0, heap_alloc_new _ _, rfl, fun i x y hx => by cases hx⟩ hr.base rfl (fun i b k hb hl hk e => ?_) (fun o v hv => ?_)
  · have := (hr.own i b k hb hl hk).2; simp only at e; omega
  · obtain ⟨h1, _⟩ := hr.stab _ _ _ hv
    have := World.block_lt_of_cell? w _ h1
    simp at this
theorem sim_extract {x : Operand} {i : Nat} (ho : o.op = .extract x i) (hr : Rel B φ K h w) (hρ : ∀ x v, ρ x = some v → Den K φ v (ρc x)) (e : aop P ρ (fun b => h[b]?) slot o = some (true, r)) : Sim B φ K h w slot ((execOp ρc o).run P w) r := by
  simp only [aop, ho] at e
  split at e
  · rename_i l hx
    have dx := hρ _ _ hx
    generalize hcx : ρc x = cx at dx
    obtain ⟨cs, rfl, hd⟩ := Den.tup_iff.1 dx
    cases hl : l[i]? with
    | none => rw [hl] at e; cases e
    | some v =>
      rw [hl] at e; cases e
      have hi : i < cs.size := by have := hd.1; simp at this; rw [← this]; rcases Nat.lt_or_ge i l.length with h' | h'; exact h'; simp [List.getElem?_eq_none h'] at hl
      have hc : cs[i]? = some cs[i] := by simp [hi]
      exact Sim.same hr (cv := cs[i]) (by simp [execOp, ho, hcx, Instr.extract, hc]) (hd.2 i _ _ hl (by simp))
  · cases e
theorem sim_field {t : TypeId} {x : Operand} {i : Nat} (ho : o.op = .field t x i) (hr : Rel B φ K h w) (hρ : ∀ x v, ρ x = some v → Den K φ v (ρc x)) (e : aop P ρ (fun b => h[b]?) slot o = some (true, r)) : Sim B φ K h w slot ((execOp ρc o).run P w) r := by
  simp only [aop, ho] at e
  split at e
  · rename_i fs l ht hx
    split at e
    · rename_i f hf
      split at e
      · rename_i n hn
        split at e
        · rename_i hle
          split at e
          · rename_i a ha
            cases e
            have dx := hρ _ _ hx
            generalize hcx : ρc x = cx at dx
            obtain ⟨cs, rfl, hd⟩ := Den.agg_iff.1 dx
            obtain ⟨cv, h1, h2⟩ := ofCells_part ha hd hn hle w
            have hf' : fs[i]? = some f := by simpa using hf
            exact Sim.same hr (by simp [execOp, ho, hcx, Instr.field, run_underlying ht w, hf', asAgg, h1]) h2
          · cases e
        · cases e
      · cases e
    · cases e
  · cases e
theorem placesA_spec {fs : List Field} {i off n : Nat} (h : placesA P fs i = some (off, n)) : ∃ f, fs[i]? = some f ∧ f.offset = off ∧ sizeT P f.type = some n := by
  unfold placesA at h
  split at h
  · rename_i f hf
    split at h
    · rename_i m hm; cases h; exact ⟨f, hf, rfl, hm⟩
    · cases h
  · cases h
theorem sim_fieldAddr {t : TypeId} {x : Operand} {i : Nat} (ho : o.op = .fieldAddr t x i) (hr : Rel B φ K h w) (hρ : ∀ x v, ρ x = some v → Den K φ v (ρc x)) (e : aop P ρ (fun b => h[b]?) slot o = some (true, r)) : Sim B φ K h w slot ((execOp ρc o).run P w) r := by
  simp only [aop, ho] at e
  split at e
  · rename_i fs a ht hx
    split at e
    · rename_i off n hp
      obtain ⟨f, hf, hoff, hn⟩ := placesA_spec hp
      obtain ⟨hsz, _⟩ := sizeT_run hn
      have hf' : fs[i]? = some f := by simpa using hf
      split at e
      · cases e
      · rename_i hn0
        have dx := hρ _ _ hx
        generalize hcx : ρc x = cx at dx
        split at e
        · cases e
          cases dx with
          | ptr _ b c g hg =>
            refine Sim.same hr ?_ (.ptr _ _ _ g hg)
            simp [execOp, ho, hcx, Instr.fieldAt, run_underlying ht w, hf', Instr.sureAddr, fieldPlace, hsz, hn0, Addr.add_mid, hoff]
        · cases e
          cases dx with
          | rop _ _ _ _ _ cb oo esz cv h1 h2 h3 h4 =>
            refine Sim.same hr ?_ (.rop _ _ _ _ _ cb oo esz cv h1 h2 h3 h4)
            simp [execOp, ho, hcx, Instr.fieldAt, run_underlying ht w, hf', Instr.sureAddr, fieldPlace, hsz, hn0, Addr.add_mid, hoff, Nat.add_assoc]
        · cases e
    · cases e
  · cases e
end ops
end Go.Proofs.Ytdhlbfhfenomcaa.Ab
