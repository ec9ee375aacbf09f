/- Maps written, len, min, max, append; and all operations together. -/
import Derived.Test.YtdhlbfhfenomcaaAb6
namespace Go.Proofs.Ytdhlbfhfenomcaa.Ab
open Go Go.RowKit
set_option linter.unusedVariables false
set_option linter.unusedSimpArgs false

section ops
variable {P : Program} {B : Nat} {φ : Ph} {K : Ks} {h : List Blk} {w : World} {slot : Nat} {ρ : Operand → Option AV} {ρc : Operand → Value} {o : Oper} {r : Res}

theorem keyF_spec {n : Nat} {f : Field} (h : keyF P n f = true) : f.offset < n ∧ sizeT P f.type = some 1 ∧ isAggT P f.type = false ∧ ((∃ k, P.underlying f.type = some (.int k)) ∨ P.underlying f.type = some .bool) := by
  unfold keyF at h
  simp only [Bool.and_eq_true] at h
  obtain ⟨h1, h2⟩ := h
  refine ⟨Nat.le_of_ble_eq_true h1, ?_⟩
  split at h2
  · rename_i k hu hs; exact ⟨hs, by unfold isAggT; rw [hu], .inl ⟨k, hu⟩⟩
  · rename_i hu hs; exact ⟨hs, by unfold isAggT; rw [hu], .inr hu⟩
  · cases h2
theorem checkKey_key {kt : TypeId} {key : AV} {ck : Value} (hk : keyV P kt key = true) (hd : Den K φ key ck) (b : Bool) (D : Nat) (w : World) : (Instr.checkKey b (D + 2) kt ck).run P w = .ok () w := by
  unfold keyV at hk
  split at hk
  · split at hk
    · rename_i q hu
      cases hd
      simp only [Instr.checkKey, Sem.run_bind, run_underlying hu w, Result.andThen_ok, Sem.run_pure]
    · cases hk
  · rename_i l
    split at hk
    · rename_i fs hu
      obtain ⟨cs, rfl, hl⟩ := Den.agg_iff.1 hd
      have hlen : l.length = cs.size := by simpa using hl.1
      rw [Instr.checkKey]
      simp only [Sem.run_bind, run_underlying hu w, Result.andThen_ok]
      have key : ∀ (l' : List Field), (∀ f ∈ l', keyF P l.length f = true) → (forIn (m := Sem) l' PUnit.unit fun f _ => do
          if f.name ≠ "_" then do
            let x ← part f.type cs f.offset
            Instr.checkKey b (D + 1) f.type x
            pure (ForInStep.yield PUnit.unit)
          else pure (ForInStep.yield PUnit.unit)).run P w = .ok PUnit.unit w := by
        intro l'
        induction l' with
        | nil => intro _; simp
        | cons f l' ih =>
          intro hf
          obtain ⟨h1, h2, h3, h4⟩ := keyF_spec (hf f (by simp))
          have hp := part_valT (P := P) (xs := cs) (off := f.offset) h2 (by rcases h4 with ⟨k, h4⟩ | h4 <;> exact ⟨_, h4⟩) (by omega) (fun _ => rfl) w
          have hc : ∀ v : Value, (Instr.checkKey b (D + 1) f.type v).run P w = .ok () w := fun v => by
            rcases h4 with ⟨k, h4⟩ | h4
            · simp only [Instr.checkKey, Sem.run_bind, run_underlying h4 w, Result.andThen_ok, Sem.run_pure]
            · simp only [Instr.checkKey, Sem.run_bind, run_underlying h4 w, Result.andThen_ok, Sem.run_pure]
          rw [List.forIn_cons]
          by_cases hn : f.name ≠ "_"
          · simp only [hn, ne_eq, not_false_eq_true, if_true, Sem.run_bind, hp, Result.andThen_ok, hc, Sem.run_pure]
            exact ih fun x hx => hf x (by simp [hx])
          · simp only [hn, if_false, Sem.run_bind, Result.andThen_ok, Sem.run_pure]
            exact ih fun x hx => hf x (by simp [hx])
      have := key fs.toList (fun f hf => (List.all_eq_true.1 hk) f hf)
      rw [← Array.forIn_toList, this]
      simp
    · cases hk
  · cases hk
/-- The look-up, in the model. -/
theorem findKey_run {kt : TypeId} {key : AV} {ck : Value} (hk : keyV P kt key = true) (hd : Den K φ key ck) {es : List (AV × AV)} {ces : List MapEntry} {r : Option AV} (e : lookD (keyEq P kt key) es = some r) (hlen : ces.length = es.length)
    (hes : ∀ (i : Nat) (e : AV × AV) (c : MapEntry), es[i]? = some e → ces[i]? = some c → Den K φ e.1 c.key ∧ Den K φ e.2 c.val) :
    ∃ q, (∀ w : World, (Instr.findKey kt ck ces).run P w = .ok q w) ∧ ((r = none ∧ q = none) ∨ ∃ v j cv, r = some v ∧ q = some (j, cv) ∧ Den K φ v cv) := by
  unfold keyV at hk
  split at hk
  · rename_i k n
    split at hk
    · rename_i q hu
      cases hd
      have key : ∀ (es : List (AV × AV)) (ces : List MapEntry) (i : Nat), lookD (keyEq P kt (.int k n)) es = some r → ces.length = es.length → (∀ (i : Nat) (e : AV × AV) (c : MapEntry), es[i]? = some e → ces[i]? = some c → Den K φ e.1 c.key ∧ Den K φ e.2 c.val) →
          ∃ q', Instr.findNow (.int q) (.int k n) ces i = some q' ∧ ((r = none ∧ q' = none) ∨ ∃ v j cv, r = some v ∧ q' = some (j, cv) ∧ Den K φ v cv) := by
        intro es
        induction es with
        | nil =>
          intro ces i e hl _
          have : ces = [] := by simpa using hl
          subst this; cases e
          exact ⟨none, rfl, .inl ⟨rfl, rfl⟩⟩
        | cons en es ih =>
          intro ces i e hl hd
          cases ces with
          | nil => simp at hl
          | cons c ces =>
            obtain ⟨ek, ev⟩ := en
            obtain ⟨h0, h1⟩ := hd 0 _ _ rfl rfl
            unfold lookD at e
            split at e
            · rename_i cc hcc
              unfold keyEq at hcc
              split at hcc
              · rename_i k1 n1 k2 n2 heq
                cases heq
                split at hcc
                · rename_i hkk
                  subst hkk
                  cases hcc
                  generalize hck : c.key = ck at h0
                  cases h0
                  cases hb : n == n2 with
                  | true =>
                    rw [hb] at e
                    cases e
                    exact ⟨_, by unfold Instr.findNow; simp only [Instr.sameNow, hck, if_true, hb], .inr ⟨_, i, c.val, rfl, rfl, h1⟩⟩
                  | false =>
                    rw [hb] at e
                    obtain ⟨q', g1, g2⟩ := ih ces (i + 1) e (by simpa using hl) (fun i e c he hc => hd (i + 1) e c (by simpa using he) (by simpa using hc))
                    exact ⟨q', by unfold Instr.findNow; simp only [Instr.sameNow, hck, if_true, hb]; exact g1, g2⟩
                · cases hcc
              · rename_i heq; cases heq
              · cases hcc
            · cases e
      obtain ⟨q', h1, h2⟩ := key es ces 0 e hlen hes
      exact ⟨q', fun w => by simp only [Instr.findKey, Sem.run_bind, run_underlying hu w, Result.andThen_ok, h1, Sem.run_pure], h2⟩
    · cases hk
  · rename_i l
    split at hk
    · rename_i fs hu
      obtain ⟨cs, rfl, hl⟩ := Den.agg_iff.1 hd
      have key : ∀ (es : List (AV × AV)) (ces : List MapEntry) (i : Nat), lookD (keyEq P kt (.agg l)) es = some r → ces.length = es.length → (∀ (i : Nat) (e : AV × AV) (c : MapEntry), es[i]? = some e → ces[i]? = some c → Den K φ e.1 c.key ∧ Den K φ e.2 c.val) →
          ∃ q', (∀ w : World, (Instr.findAsking kt (.agg cs) ces i).run P w = .ok q' w) ∧ ((r = none ∧ q' = none) ∨ ∃ v j cv, r = some v ∧ q' = some (j, cv) ∧ Den K φ v cv) := by
        intro es
        induction es with
        | nil =>
          intro ces i e hl _
          have : ces = [] := by simpa using hl
          subst this; cases e
          exact ⟨none, fun w => by simp [Instr.findAsking], .inl ⟨rfl, rfl⟩⟩
        | cons en es ih =>
          intro ces i e hl' hd
          cases ces with
          | nil => simp at hl'
          | cons c ces =>
            obtain ⟨ek, ev⟩ := en
            obtain ⟨h0, h1⟩ := hd 0 _ _ rfl rfl
            unfold lookD at e
            split at e
            · rename_i cc hcc
              unfold keyEq at hcc
              split at hcc
              · rename_i heq; cases heq
              · rename_i l1 m1 heq
                cases heq
                obtain ⟨ds, hds, hdl⟩ := Den.agg_iff.1 h0
                have heq := fun w => (eqAgg_run hcc hl hdl w).1
                cases cc with
                | true =>
                  cases e
                  exact ⟨_, fun w => by simp only [Instr.findAsking, Op.equal, Op.maxDepth, Sem.run_bind, hds, heq, Result.andThen_ok, if_true, Sem.run_pure], .inr ⟨_, i, c.val, rfl, rfl, h1⟩⟩
                | false =>
                  obtain ⟨q', g1, g2⟩ := ih ces (i + 1) e (by simpa using hl') (fun i e c he hc => hd (i + 1) e c (by simpa using he) (by simpa using hc))
                  exact ⟨q', fun w => by simp only [Instr.findAsking, Op.equal, Op.maxDepth, Sem.run_bind, hds, heq, Result.andThen_ok, Bool.false_eq_true, if_false, g1], g2⟩
              · cases hcc
            · cases e
      obtain ⟨q', h1, h2⟩ := key es ces 0 e hlen hes
      cases ces with
      | nil =>
        refine ⟨q', fun w => ?_, h2⟩
        have h3 := h1 w
        simp only [Instr.findAsking, Sem.run_pure] at h3
        simp only [Instr.findKey, Sem.run_bind, run_underlying hu w, Result.andThen_ok, Instr.findNow, Sem.run_pure, h3]
      | cons c ces =>
        refine ⟨q', fun w => ?_, h2⟩
        simp only [Instr.findKey, Sem.run_bind, run_underlying hu w, Result.andThen_ok, Instr.findNow, Instr.sameNow, h1]
    · cases hk
  · cases hk
theorem freshK_look {eq : AV → Option Bool} : ∀ {es : List (AV × AV)}, freshK eq es = true → lookD eq es = some none := by
  intro es
  induction es with
  | nil => intro _; rfl
  | cons en es ih =>
    obtain ⟨a, b⟩ := en
    intro h
    unfold freshK at h
    unfold lookD
    cases ha : eq a with
    | none => rw [ha] at h; cases h
    | some c =>
      rw [ha] at h
      simp only [Bool.and_eq_true, Bool.not_eq_true'] at h
      simp only [h.1, cond_false]
      exact ih h.2
theorem sim_ins {t : TypeId} {m k x : Operand} (ho : o.op = .insert t m k x ∨ o.op = .mapUpdate t m k x) (hr : Rel B φ K h w) (hρ : ∀ x v, ρ x = some v → Den K φ v (ρc x)) (e : insA P t (fun b => h[b]?) (ρ m) (ρ k) (ρ x) = some (true, r)) : Sim B φ K h w slot ((execOp ρc o).run P w) r := by
  unfold insA at e
  split at e
  · rename_i b key a kt et hm hk hx hu
    split at e
    · rename_i es hb
      split at e
      · rename_i hc
        obtain ⟨hkv, hf, hp⟩ := hc
        cases e
        have dm := hρ _ _ hm
        generalize hcm : ρc m = cm at dm
        have dk := hρ _ _ hk
        generalize hck : ρc k = ck at dk
        cases dm with
        | map _ _ g hg =>
          obtain ⟨ces, clock, hbk, hsz, hd⟩ := hr.blk b _ g hb hg
          obtain ⟨q, hq, hq2⟩ := findKey_run hkv dk (freshK_look hf) (ces := ces.toList) (by rw [Array.length_toList]; exact hsz) (fun i e c he hc => hd i e c he (by simpa using hc))
          have hqn : q = none := by
            rcases hq2 with ⟨_, h2⟩ | ⟨v, j, cv, h1, _⟩
            · exact h2
            · cases h1
          subst hqn
          have hlt := (hr.own b _ g hb rfl hg).2
          have hgB := (hr.own b _ g hb rfl hg).1
          have hget : (getObj g.cb).run P w = .ok (.map ces clock) w := by simp only [getObj, Sem.run, hbk]
          have hset : ∀ ob : Obj, (setObj g.cb ob).run P w = .ok () { w with heap := w.heap.setIfInBounds g.cb ob } := by intro ob; simp only [setObj, Sem.run, hbk]
          have hck2 : (Instr.checkKey false 10000 kt ck).run P w = .ok () w := checkKey_key hkv dk _ 9998 w
          refine ⟨.skip, φ, K, { w with heap := w.heap.setIfInBounds g.cb (.map (ces.push { key := ck, val := ρc x, born := clock }) (clock + 1)) }, ?_, Ext.refl _ _, KN.refl _ _, ?_, ⟨rfl, rfl, rfl, by simp, fun i hi => by simp [Array.getElem?_setIfInBounds, show ¬ g.cb = i by omega]⟩, fun _ _ => rfl, .inr ⟨rfl, rfl⟩⟩
          · rcases ho with ho | ho <;> simp only [execOp, ho, hcm, hck, Instr.mapUpdate, Sem.run_bind, run_underlying hu w, Result.andThen_ok, hget, hck2, hq, hset, Sem.run_pure]
          · refine hr.write hb rfl (by simp) hg _ ⟨ces.push { key := ck, val := ρc x, born := clock }, clock + 1, by simp [Array.getElem?_setIfInBounds, hlt], by simp [hsz], fun i e c he hc => ?_⟩ rfl (by simp) (by simp) (fun i hi => by simp [Array.getElem?_setIfInBounds, show ¬ g.cb = i by omega])
            rcases Nat.lt_or_ge i es.length with hi | hi
            · rw [List.getElem?_append_left hi] at he
              rw [Array.getElem?_push, if_neg (by omega)] at hc
              exact hd i e c he hc
            · rw [List.getElem?_append_right hi] at he
              have : i = es.length := by
                rcases Nat.lt_or_ge es.length i with h' | h'
                · simp [show i - es.length ≠ 0 by omega] at he
                · omega
              subst this
              simp at he
              subst he
              rw [Array.getElem?_push, if_pos hsz.symm] at hc
              cases hc
              exact ⟨dk, hρ _ _ hx⟩
      · cases e
    · cases e
  · cases e
theorem sim_insert {t : TypeId} {m k x : Operand} (ho : o.op = .insert t m k x) (hr : Rel B φ K h w) (hρ : ∀ x v, ρ x = some v → Den K φ v (ρc x)) (e : aop P ρ (fun b => h[b]?) slot o = some (true, r)) : Sim B φ K h w slot ((execOp ρc o).run P w) r := by
  simp only [aop, ho] at e
  exact sim_ins (.inl ho) hr hρ e
theorem sim_mapUpdate {t : TypeId} {m k x : Operand} (ho : o.op = .mapUpdate t m k x) (hr : Rel B φ K h w) (hρ : ∀ x v, ρ x = some v → Den K φ v (ρc x)) (e : aop P ρ (fun b => h[b]?) slot o = some (true, r)) : Sim B φ K h w slot ((execOp ρc o).run P w) r := by
  simp only [aop, ho] at e
  exact sim_ins (.inr ho) hr hρ e
theorem lenOfA_den {a : AV} {cv : Value} (d : Den K φ a cv) {n : Nat} (e : lenOfA a = some n) : ∃ A cap, cv = .slice A n cap := by
  unfold lenOfA at e
  split at e
  · cases e; cases d; exact ⟨_, _, rfl⟩
  · cases e; cases d <;> exact ⟨_, _, rfl⟩
  · cases e; have := d.osl_ros; cases this <;> exact ⟨_, _, rfl⟩
  · cases e; cases d; exact ⟨_, _, rfl⟩
  · cases e
theorem sim_builtin_small {c : Call} (ho : o.op = .call c) (hc : c.callee = .builtin .len ∨ c.callee = .builtin .max ∨ c.callee = .builtin .min) (hr : Rel B φ K h w) (hρ : ∀ x v, ρ x = some v → Den K φ v (ρc x)) (e : aop P ρ (fun b => h[b]?) slot o = some (true, r)) : Sim B φ K h w slot ((execOp ρc o).run P w) r := by
  simp only [aop, ho] at e
  rcases hc with hc | hc | hc
  · simp only [hc] at e
    split at e
    · rename_i t a ht ha
      split at e
      · rename_i el n hu hn
        cases e
        cases hx : c.args[0]? with
        | none => rw [hx] at ha; cases ha
        | some x =>
          rw [hx] at ha
          obtain ⟨A, cap, hcx⟩ := lenOfA_den (hρ x a ha) hn
          refine Sim.same hr (cv := .int .i64 n) ?_ (.int ..)
          have hargs : (c.args.map ρc)[0]? = some (ρc x) := by simp [hx]
          simp [execOp, ho, resolve, hc, invoke, builtin, Builtin.len_, ht, hx, hcx, run_underlying hu w, goInt]
      · cases e
    · cases e
  · simp only [hc] at e
    split at e
    · rename_i k x k' y hxy
      split at e
      · rename_i hk
        subst hk
        cases e
        have hd := evs2_den hρ hxy
        obtain ⟨ca, cb, hl⟩ : ∃ ca cb, c.args.toList.map ρc = [ca, cb] := by
          have := hd.1
          match hm : c.args.toList.map ρc with
          | [ca, cb] => exact ⟨ca, cb, rfl⟩
          | [] => rw [hm] at this; simp at this
          | [_] => rw [hm] at this; simp at this
          | _ :: _ :: _ :: _ => rw [hm] at this; simp at this
        rw [hl] at hd
        have d0 := hd.2 0 _ _ rfl rfl
        have d1 := hd.2 1 _ _ rfl rfl
        cases d0; cases d1
        refine Sim.same hr (cv := .int k (if y > x then y else x)) ?_ (.int ..)
        have hl' : (c.args.map ρc).toList = [.int k x, .int k y] := by simpa using hl
        simp only [execOp, ho, resolve, hc, invoke, builtin, Builtin.max_, Sem.run_bind, Sem.run_pure, Result.andThen_ok, hl']
        simp [Builtin.max2]
      · cases e
    · cases e
  · simp only [hc] at e
    split at e
    · rename_i k x k' y hxy
      split at e
      · rename_i hk
        subst hk
        cases e
        have hd := evs2_den hρ hxy
        obtain ⟨ca, cb, hl⟩ : ∃ ca cb, c.args.toList.map ρc = [ca, cb] := by
          have := hd.1
          match hm : c.args.toList.map ρc with
          | [ca, cb] => exact ⟨ca, cb, rfl⟩
          | [] => rw [hm] at this; simp at this
          | [_] => rw [hm] at this; simp at this
          | _ :: _ :: _ :: _ => rw [hm] at this; simp at this
        rw [hl] at hd
        have d0 := hd.2 0 _ _ rfl rfl
        have d1 := hd.2 1 _ _ rfl rfl
        cases d0; cases d1
        refine Sim.same hr (cv := .int k (if y < x then y else x)) ?_ (.int ..)
        have hl' : (c.args.map ρc).toList = [.int k x, .int k y] := by simpa using hl
        simp only [execOp, ho, resolve, hc, invoke, builtin, Builtin.min_, Sem.run_bind, Sem.run_pure, Result.andThen_ok, hl']
        simp [Builtin.min2]
      · cases e
    · cases e
end ops
end Go.Proofs.Ytdhlbfhfenomcaa.Ab
