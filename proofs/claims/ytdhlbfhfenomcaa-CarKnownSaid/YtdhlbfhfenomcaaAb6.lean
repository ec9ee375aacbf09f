/- Maps, slicing, indexing, assertions, len, min, max, append; and all operations together. -/
import Derived.Test.YtdhlbfhfenomcaaAb5
namespace Go.Proofs.Ytdhlbfhfenomcaa.Ab
open Go Go.RowKit
set_option linter.unusedVariables false
set_option linter.unusedSimpArgs false

section ops
variable {P : Program} {B : Nat} {φ : Ph} {K : Ks} {h : List Blk} {w : World} {slot : Nat} {ρ : Operand → Option AV} {ρc : Operand → Value} {o : Oper} {r : Res}

theorem idx_den (hρ : ∀ x v, ρ x = some v → Den K φ v (ρc x)) {x : Operand} {n : Int} (e : aop.idx (ρ x) = some n) : ∃ k, ρc x = .int k n := by
  unfold aop.idx at e
  split at e
  · rename_i k m hx
    cases e
    have := hρ _ _ hx
    generalize ρc x = c at this
    cases this
    exact ⟨k, rfl⟩
  · cases e
/-- A row: where it lies. -/
theorem rowOf_den {a : AV} {cv : Value} (d : Den K φ a cv) {n : Nat} {f : Nat → AV} (e : rowOf a = some (n, f)) : ∃ A cap, cv = .slice A n cap ∧ n ≤ cap ∧
    (n = 0 ∨ ∃ (cb o esz : Nat) (cvf : Nat → Nat → Value), A = some ⟨cb, o, none⟩ ∧ (∀ j : Nat, j < n → (cellsOf (f j)).length = esz) ∧ (∀ (j l : Nat) (u : AV), j < n → (cellsOf (f j))[l]? = some u → K cb (o + j * esz + l) = some (cvf j l)) ∧
      (∀ (j l : Nat) (u : AV), j < n → (cellsOf (f j))[l]? = some u → Den K (fun _ => none) u (cvf j l))) := by
  have key : ∀ {fl : Bool} {n : Nat} {f : Nat → AV} {cv : Value}, Den K φ (.ros fl n f) cv → ∃ A cap, cv = .slice A n cap ∧ n ≤ cap ∧
    (n = 0 ∨ ∃ (cb o esz : Nat) (cvf : Nat → Nat → Value), A = some ⟨cb, o, none⟩ ∧ (∀ j : Nat, j < n → (cellsOf (f j)).length = esz) ∧ (∀ (j l : Nat) (u : AV), j < n → (cellsOf (f j))[l]? = some u → K cb (o + j * esz + l) = some (cvf j l)) ∧
      (∀ (j l : Nat) (u : AV), j < n → (cellsOf (f j))[l]? = some u → Den K (fun _ => none) u (cvf j l))) := by
    intro fl n f cv d
    cases d with
    | rosn _ f A cap => exact ⟨A, cap, rfl, Nat.zero_le _, .inl rfl⟩
    | rosf _ f A => exact ⟨A, 0, rfl, Nat.le_refl _, .inl rfl⟩
    | ros _ _ _ _ cb o esz cap cvf hc hf hl hk hd => exact ⟨_, cap, rfl, hc, .inr ⟨cb, o, esz, cvf, rfl, hl, hk, hd⟩⟩
  unfold rowOf at e
  split at e
  · cases e; cases d; exact ⟨none, 0, rfl, Nat.le_refl _, .inl rfl⟩
  · cases e; exact key d
  · cases e; exact key d.osl_ros
  · cases e
theorem okSz_spec {n : Nat} {f : Nat → AV} {z : Nat} (h : okSz n f z = true) : n = 0 ∨ (cellsOf (f 0)).length = z := by
  unfold okSz at h
  rw [Bool.or_eq_true] at h
  rcases h with h | h
  · exact .inr (Nat.eq_of_beq_eq_true h)
  · exact .inl (Nat.eq_of_beq_eq_true h)
theorem sim_slice {t : TypeId} {x : Operand} {lo hi : Option Operand} (ho : o.op = .slice t x lo hi none) (hr : Rel B φ K h w) (hρ : ∀ x v, ρ x = some v → Den K φ v (ρc x)) (e : aop P ρ (fun b => h[b]?) slot o = some (true, r)) : Sim B φ K h w slot ((execOp ρc o).run P w) r := by
  simp only [aop, ho] at e
  split at e
  · rename_i el a hu hx
    split at e
    · rename_i n f l z hrow hlo hz
      split at e
      · rename_i hh hhi
        simp only [Option.some.injEq, Prod.mk.injEq, Bool.and_eq_true, decide_eq_true_eq] at e
        obtain ⟨⟨⟨⟨h0, h1⟩, h2⟩, h3⟩, rfl⟩ := e
        have h3 := okSz_spec h3
        obtain ⟨A, cap, hcx, hcap, hcell⟩ := rowOf_den (hρ _ _ hx) hrow
        have hb : (Instr.sliceBounds true n cap (lo.map ρc) (hi.map ρc) none).run P w = .ok (l.toNat, hh.toNat, cap) w := by
          have c1 : hh ≤ (cap : Int) := by omega
          have c0 : 0 ≤ hh := by omega
          have c2 : l ≤ (hh.toNat : Int) := by omega
          cases lo with
          | none =>
            have hl0 : (0 : Int) = l := by simpa using hlo
            subst hl0
            cases hi with
            | none =>
              have hn : (n : Int) = hh := by simpa using hhi
              subst hn
              simp [Instr.sliceBounds]
            | some e =>
              obtain ⟨k, hk⟩ := idx_den hρ hhi
              simp [Instr.sliceBounds, Instr.sliceBound, asIntOf, hk, c1, c0]
          | some e0 =>
            obtain ⟨k0, hk0⟩ := idx_den hρ hlo
            cases hi with
            | none =>
              have hn : (n : Int) = hh := by simpa using hhi
              subst hn
              have c3 : l ≤ (n : Int) := by omega
              simp [Instr.sliceBounds, Instr.sliceBound, asIntOf, hk0, h0, c3]
            | some e =>
              obtain ⟨k, hk⟩ := idx_den hρ hhi
              simp only [Instr.sliceBounds, Instr.sliceBound, asIntOf, hk, hk0, Option.map_some, Sem.run_bind, Sem.run_pure, Result.andThen_ok, if_true, Option.isSome_none, Bool.false_eq_true, if_false, Sem.run_ite]
              rw [if_pos ⟨c0, c1⟩]
              simp only [Result.andThen_ok]
              rw [if_pos ⟨h0, c2⟩]
              simp only [Result.andThen_ok]
        have hrun : (execOp ρc o).run P w = .ok (.value (.slice (if cap = l.toNat then A else A.map (·.add (l.toNat * z))) (hh.toNat - l.toNat) (cap - l.toNat))) w := by
          simp only [execOp, ho, Instr.sliceAt, Sem.run_bind, run_underlying hu w, Result.andThen_ok, Option.map_none]
          rw [hcx]
          simp only [Instr.slice, Sem.run_bind, run_underlying hu w, Result.andThen_ok, hb, (sizeT_run hz).1 w, Sem.run_pure]
        have e1 : (hh - l).toNat = hh.toNat - l.toNat := by omega
        refine Sim.same hr hrun ?_
        rw [← e1]
        by_cases hz0 : (hh - l).toNat = 0
        · rw [hz0]; exact .rosn ..
        · rcases hcell with hn | ⟨cb, oo, esz, cvf, rfl, c1, c2, c3⟩
          · omega
          · have hesz : esz = z := by
              rcases h3 with h3 | h3
              · omega
              · rw [← h3]; exact (c1 0 (by omega)).symm
            subst hesz
            have hne : ¬ cap = l.toNat := by omega
            rw [if_neg hne]
            simp only [Option.map_some, Addr.add_mid]
            refine .ros _ false _ _ cb (oo + l.toNat * esz) esz (cap - l.toNat) (fun j l' => cvf (l.toNat + j) l') (by omega) (fun h => by cases h) (fun j hj => c1 _ (by omega)) (fun j l' u hj hu' => ?_) (fun j l' u hj hu' => c3 _ _ _ (by omega) hu')
            have := c2 (l.toNat + j) l' u (by omega) hu'
            rw [Nat.add_mul, ← Nat.add_assoc] at this
            exact this
      · cases e
    · cases e
  · rename_i n el b hu hx
    split at e
    · rename_i z hz
      cases e
      have dx := hρ _ _ hx
      generalize hcx : ρc x = cx at dx
      cases dx with
      | ptr _ _ _ g hg =>
        have hb : (Instr.sliceBounds false n n none none none).run P w = .ok (0, n, n) w := by simp [Instr.sliceBounds]
        have hadd : (⟨g.cb, 0, none⟩ : Addr).add (0 * z) = ⟨g.cb, 0, none⟩ := by rw [Addr.add_mid]; simp
        have hrun : (execOp ρc o).run P w = .ok (.value (.slice (some ⟨g.cb, 0, none⟩) n n)) w := by
          simp only [execOp, ho, Instr.sliceAt, Sem.run_bind, run_underlying hu w, Result.andThen_ok, Option.map_none]
          rw [hcx]
          simp only [Instr.sureAddr, Sem.run_bind, Result.andThen_ok, Sem.run_pure, hb, (sizeT_run hz).1 w, hadd, ite_self, Nat.sub_zero]
        exact Sim.same hr hrun (.lsl _ _ _ g _ hg (Nat.le_refl _))
    · cases e
  · cases e
theorem sim_indexAddr {t : TypeId} {x i : Operand} (ho : o.op = .indexAddr t x i) (hr : Rel B φ K h w) (hρ : ∀ x v, ρ x = some v → Den K φ v (ρc x)) (e : aop P ρ (fun b => h[b]?) slot o = some (true, r)) : Sim B φ K h w slot ((execOp ρc o).run P w) r := by
  simp only [aop, ho] at e
  split at e
  · rename_i len el b c j hu hx hi
    split at e
    · rename_i n hn
      simp only [Option.some.injEq, Prod.mk.injEq, Bool.and_eq_true, decide_eq_true_eq] at e
      obtain ⟨⟨h0, h1⟩, rfl⟩ := e
      obtain ⟨k, hk⟩ := idx_den hρ hi
      have dx := hρ _ _ hx
      generalize hcx : ρc x = cx at dx
      cases dx with
      | ptr _ _ _ g hg =>
        refine Sim.same hr ?_ (.ptr _ _ _ g hg)
        simp [execOp, ho, hcx, hk, Instr.indexAt, asIntOf, run_underlying hu w, Instr.sureAddr, h0, h1, (sizeT_run hn).1 w, Addr.add_mid]
    · cases e
  · rename_i el b n j hu hx hi
    split at e
    · rename_i z hz
      simp only [Option.some.injEq, Prod.mk.injEq, Bool.and_eq_true, decide_eq_true_eq] at e
      obtain ⟨⟨h0, h1⟩, rfl⟩ := e
      obtain ⟨k, hk⟩ := idx_den hρ hi
      have dx := hρ _ _ hx
      generalize hcx : ρc x = cx at dx
      cases dx with
      | lsl _ _ _ g cap hg hc =>
        refine Sim.same hr ?_ (.ptr _ _ _ g hg)
        simp [execOp, ho, hcx, hk, Instr.indexAt, asIntOf, run_underlying hu w, h0, h1, (sizeT_run hz).1 w, Addr.add_mid]
    · cases e
  · rename_i el a j hnl hu hx hi
    split at e
    · rename_i n f z hrow hz
      simp only [Option.some.injEq, Prod.mk.injEq, Bool.and_eq_true, decide_eq_true_eq] at e
      obtain ⟨⟨⟨h0, h1⟩, h2⟩, rfl⟩ := e
      obtain ⟨k, hk⟩ := idx_den hρ hi
      obtain ⟨A, cap, hcx, hcap, hcell⟩ := rowOf_den (hρ _ _ hx) hrow
      have h2 := okSz_spec h2
      rcases hcell with hn | ⟨cb, oo, esz, cvf, rfl, c1, c2, c3⟩
      · omega
      · have hesz : esz = z := by
          rcases h2 with h3 | h3
          · omega
          · rw [← h3]; exact (c1 0 (by omega)).symm
        subst hesz
        refine Sim.same (cv := .pointer (some ⟨cb, oo + j.toNat * esz + 0, none⟩)) hr ?_ (.rop _ n f j.toNat 0 cb oo esz cvf (by omega) c1 c2 c3)
        simp [execOp, ho, hcx, hk, Instr.indexAt, asIntOf, run_underlying hu w, h0, h1, (sizeT_run hz).1 w, Addr.add_mid]
    · cases e
  · cases e
theorem sim_index {t : TypeId} {x i : Operand} (ho : o.op = .index t x i) (hr : Rel B φ K h w) (hρ : ∀ x v, ρ x = some v → Den K φ v (ρc x)) (e : aop P ρ (fun b => h[b]?) slot o = some (true, r)) : Sim B φ K h w slot ((execOp ρc o).run P w) r := by
  simp only [aop, ho] at e
  split at e
  · rename_i len el l j hu hx hi
    split at e
    · rename_i n hn
      split at e
      · rename_i hl
        split at e
        · rename_i a ha
          simp only [Option.some.injEq, Prod.mk.injEq, Bool.and_eq_true, decide_eq_true_eq] at e
          obtain ⟨⟨h0, h1⟩, rfl⟩ := e
          obtain ⟨k, hk⟩ := idx_den hρ hi
          have dx := hρ _ _ hx
          generalize hcx : ρc x = cx at dx
          obtain ⟨cs, rfl, hd⟩ := Den.agg_iff.1 dx
          have hle : j.toNat * n + n ≤ l.length := by rw [hl, ← Nat.succ_mul]; exact Nat.mul_le_mul_right _ (by omega)
          obtain ⟨cv, p1, p2⟩ := ofCells_part ha hd hn hle w
          exact Sim.same hr (by simp [execOp, ho, hcx, hk, Instr.index, asIntOf, run_underlying hu w, h0, h1, (sizeT_run hn).1 w, p1]) p2
        · cases e
      · cases e
    · cases e
  · cases e
theorem sim_typeAssert {x : Operand} {xt t : TypeId} {ok : Bool} (ho : o.op = .typeAssert x xt t ok) (hr : Rel B φ K h w) (hρ : ∀ x v, ρ x = some v → Den K φ v (ρc x)) (e : aop P ρ (fun b => h[b]?) slot o = some (true, r)) : Sim B φ K h w slot ((execOp ρc o).run P w) r := by
  simp only [aop, ho] at e
  have two : ∀ {a b : AV} {ca cb : Value}, Den K φ a ca → Den K φ b cb → Den K φ (.tup [a, b]) (.tuple #[ca, cb]) := fun ha hb => Den.tup_iff.2 ⟨_, rfl, DenL.cons ha (DenL.cons hb (DenL.nil _ _))⟩
  split at e
  · cases e
  · rename_i d a u hni hx hu
    have dx := hρ _ _ hx
    generalize hcx : ρc x = cx at dx
    cases dx with
    | ifc _ _ _ cv hv =>
      split at e
      · rename_i hdt
        subst hdt
        cases e
        cases ok with
        | true =>
          refine Sim.same hr (cv := .tuple #[cv, .bool true]) ?_ (two hv (.bool ..))
          simp only [execOp, ho, hcx, Instr.typeAssert, Sem.run_bind, run_underlying hu w, Result.andThen_ok]
          cases u <;> simp_all
        | false =>
          refine Sim.same hr (cv := cv) ?_ hv
          simp only [execOp, ho, hcx, Instr.typeAssert, Sem.run_bind, run_underlying hu w, Result.andThen_ok]
          cases u <;> simp_all
      · rename_i hdt
        split at e
        · rename_i z hok hz
          cases e
          obtain ⟨zv, hzr, hzd⟩ := zeroT_run hz
          refine Sim.same hr (cv := .tuple #[zv, .bool false]) ?_ (two (ofV_den hzd K φ) (.bool ..))
          simp only [execOp, ho, hcx, Instr.typeAssert, Sem.run_bind, run_underlying hu w, Result.andThen_ok]
          cases u <;> simp_all
        · cases e
  · rename_i u hni hx hu
    have dx := hρ _ _ hx
    generalize hcx : ρc x = cx at dx
    cases dx
    split at e
    · rename_i z hok hz
      cases e
      obtain ⟨zv, hzr, hzd⟩ := zeroT_run hz
      refine Sim.same hr (cv := .tuple #[zv, .bool false]) ?_ (two (ofV_den hzd K φ) (.bool ..))
      simp only [execOp, ho, hcx, Instr.typeAssert, Sem.run_bind, run_underlying hu w, Result.andThen_ok]
      cases u <;> simp_all
    · cases e
  · cases e
end ops
end Go.Proofs.Ytdhlbfhfenomcaa.Ab
