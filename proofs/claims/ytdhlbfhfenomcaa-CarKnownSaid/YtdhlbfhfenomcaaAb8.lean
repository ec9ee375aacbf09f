/- append; and all operations together. -/
import Derived.Test.YtdhlbfhfenomcaaAb7
namespace Go.Proofs.Ytdhlbfhfenomcaa.Ab
open Go Go.RowKit
set_option linter.unusedVariables false
set_option linter.unusedSimpArgs false

theorem growBy_le (need : Nat) : ∀ (rounds c : Nat), c < need → Builtin.growBy need rounds c ≤ 2 * need + 192 := by
  intro rounds
  induction rounds with
  | zero => intro c h; simp [Builtin.growBy]; omega
  | succ n ih =>
    intro c h
    unfold Builtin.growBy
    rw [if_neg (by omega)]
    rcases Nat.lt_or_ge (c + (c + 768) / 4) need with h' | h'
    · exact ih _ h'
    · cases n with
      | zero => simp [Builtin.growBy]; omega
      | succ m => unfold Builtin.growBy; rw [if_pos h']; omega
theorem nextcap_le (need cap : Nat) (h : cap < need) : Builtin.nextslicecap need cap ≤ 2 * need + 192 := by
  unfold Builtin.nextslicecap
  split
  · omega
  · split
    · omega
    · exact growBy_le need 4 cap h

section ops
variable {P : Program} {B : Nat} {φ : Ph} {K : Ks} {h : List Blk} {w : World} {slot : Nat} {ρ : Operand → Option AV} {ρc : Operand → Value} {o : Oper} {r : Res}

/-- The cells of a row, one behind the other. -/
def flatR (size : Nat) (cvf : Nat → Nat → Value) (i : Nat) : Value := cvf (i / size) (i % size)
theorem flatR_at {size : Nat} (cvf : Nat → Nat → Value) {j l : Nat} (hl : l < size) : flatR size cvf (j * size + l) = cvf j l := by
  unfold flatR
  have h1 : (j * size + l) / size = j := by
    rw [Nat.mul_comm, Nat.mul_add_div (by omega), Nat.div_eq_of_lt hl, Nat.add_zero]
  have h2 : (j * size + l) % size = l := by
    rw [Nat.mul_comm, Nat.mul_add_mod, Nat.mod_eq_of_lt hl]
  rw [h1, h2]
/-- A slice of a known row, its elements of so many cells. -/
structure RowIs (K : Ks) (n : Nat) (f : Nat → AV) (size : Nat) (A : Option Addr) (cvf : Nat → Nat → Value) : Prop where
  ad : n = 0 ∨ ∃ cb o : Nat, A = some ⟨cb, o, none⟩ ∧ ∀ (j l : Nat), j < n → l < size → K cb (o + j * size + l) = some (cvf j l)
  len : ∀ j : Nat, j < n → (cellsOf (f j)).length = size
  den : ∀ (j l : Nat) (u : AV), j < n → (cellsOf (f j))[l]? = some u → Den K (fun _ => none) u (cvf j l)
theorem rowIs {a : AV} {cv : Value} (d : Den K φ a cv) {n : Nat} {f : Nat → AV} (e : rowOf a = some (n, f)) {size : Nat} (hs : okSz n f size = true) : ∃ A cap cvf, cv = .slice A n cap ∧ n ≤ cap ∧ RowIs K n f size A cvf := by
  obtain ⟨A, cap, h1, h2, h3⟩ := rowOf_den d e
  rcases h3 with h3 | ⟨cb, o, esz, cvf, h4, h5, h6, h7⟩
  · exact ⟨A, cap, fun _ _ => undef, h1, h2, .inl h3, fun j hj => by omega, fun j l u hj => by omega⟩
  · by_cases hn : n = 0
    · exact ⟨A, cap, cvf, h1, h2, .inl hn, fun j hj => by omega, fun j l u hj => by omega⟩
    · have he : esz = size := by
        rcases okSz_spec hs with h | h
        · exact absurd h hn
        · rw [← h]; exact (h5 0 (by omega)).symm
      subst he
      refine ⟨A, cap, cvf, h1, h2, .inr ⟨cb, o, h4, fun j l hj hl => ?_⟩, h5, h7⟩
      have hg : (cellsOf (f j))[l]? = some ((cellsOf (f j))[l]'(by rw [h5 j hj]; exact hl)) := by simp [h5 j hj, hl]
      exact h6 j l _ hj hg
theorem RowIs.first {n size cap : Nat} {f : Nat → AV} {A : Option Addr} {cvf : Nat → Nat → Value} (x : RowIs K n f size A cvf) (hs : 0 < size) {w : World} (hw : ∀ cb o v, K cb o = some v → w.cell? ⟨cb, o, none⟩ = some v) :
    (Builtin.firstCells size n (.slice A n cap)).run P w = .ok ((List.range (n * size)).map (flatR size cvf)).toArray w := by
  rcases x.ad with h | ⟨cb, o, rfl, hk⟩
  · subst h
    cases A with
    | none => simp [Builtin.firstCells]
    | some a => simp only [Builtin.firstCells, Nat.zero_mul]; rw [run_loadCells w a 0 (flatR size cvf) (fun j hj => by omega)]
  · simp only [Builtin.firstCells]
    refine run_loadCells w ⟨cb, o, none⟩ (n * size) (flatR size cvf) (fun i hi => ?_)
    rw [Addr.add_mid]
    have hj : i / size < n := (Nat.div_lt_iff_lt_mul hs).2 hi
    have hl : i % size < size := Nat.mod_lt _ hs
    have := hw _ _ _ (hk (i / size) (i % size) hj hl)
    have e : o + i / size * size + i % size = o + i := by
      have := Nat.div_add_mod i size
      rw [Nat.mul_comm] at this; omega
    rw [e] at this
    exact this
theorem RowIs.mono {K' : Ks} {n size : Nat} {f : Nat → AV} {A : Option Addr} {cvf : Nat → Nat → Value} (x : RowIs K n f size A cvf) (hk : ∀ b o v, K b o = some v → K' b o = some v) : RowIs K' n f size A cvf :=
  ⟨x.ad.imp id fun ⟨cb, o, h1, h2⟩ => ⟨cb, o, h1, fun j l hj hl => hk _ _ _ (h2 j l hj hl)⟩, x.len, fun j l u hj hu => (x.den j l u hj hu).mono ⟨fun _ _ h => (by cases h), hk⟩⟩
theorem appF_lt {n : Nat} {f g : Nat → AV} {j : Nat} (h : j < n) : appF n f g j = f j := by
  cases n with
  | zero => omega
  | succ n =>
    show cond (Nat.blt j (n + 1)) (f j) (g (j - (n + 1))) = f j
    have : Nat.blt j (n + 1) = true := by simp [Nat.blt]; exact Nat.le_of_lt_succ h
    rw [this]; rfl
theorem appF_ge {n : Nat} {f g : Nat → AV} {j : Nat} (h : n ≤ j) : appF n f g j = g (j - n) := by
  cases n with
  | zero => rfl
  | succ n =>
    show cond (Nat.blt j (n + 1)) (f j) (g (j - (n + 1))) = g (j - (n + 1))
    have : Nat.blt j (n + 1) = false := by
      cases hb : Nat.blt j (n + 1) with
      | false => rfl
      | true => have := Nat.le_of_ble_eq_true hb; omega
    rw [this]; rfl
/-- The cells of both rows, one behind the other. -/
def cvApp (n : Nat) (cf cg : Nat → Nat → Value) (j l : Nat) : Value := if j < n then cf j l else cg (j - n) l
theorem den_app {K' : Ks} {n m size cb oo : Nat} {f g : Nat → AV} {A A' : Option Addr} {cf cg : Nat → Nat → Value} (x : RowIs K' n f size A cf) (y : RowIs K' m g size A' cg) (cap : Nat) (hcap : n + m ≤ cap)
    (hK : ∀ (j l : Nat), j < n + m → l < size → K' cb (oo + j * size + l) = some (cvApp n cf cg j l)) (ψ : Ph) : Den K' ψ (.ros false (n + m) (appF n f g)) (.slice (some ⟨cb, oo, none⟩) (n + m) cap) := by
  have hlen : ∀ j, j < n + m → (cellsOf (appF n f g j)).length = size := fun j hj => by
    rcases Nat.lt_or_ge j n with h | h
    · rw [appF_lt h]; exact x.len j h
    · rw [appF_ge h]; exact y.len _ (by omega)
  refine .ros _ false _ _ cb oo size cap (cvApp n cf cg) hcap (fun h => by cases h) hlen (fun j l u hj hu => ?_) (fun j l u hj hu => ?_)
  · have hl : l < size := by rw [← hlen j hj]; rcases Nat.lt_or_ge l (cellsOf (appF n f g j)).length with h' | h'; exact h'; simp [List.getElem?_eq_none h'] at hu
    exact hK j l hj hl
  · unfold cvApp
    rcases Nat.lt_or_ge j n with h | h
    · rw [if_pos h]; rw [appF_lt h] at hu; exact x.den j l u h hu
    · rw [if_neg (by omega)]; rw [appF_ge h] at hu; exact y.den _ l u (by omega) hu

theorem canAppend_spec {a : AV} {rd : List Nat} {kill : List (Nat × Blk)} (e : aop.canAppend (fun b => h[b]?) a = some (rd, kill)) :
    ((a = .nils ∨ ∃ n f, a = .ros true n f) ∧ kill = []) ∨ ∃ b n f, a = .osl b n f ∧ h[b]? = some .own ∧ kill = [(b, .dead)] := by
  unfold aop.canAppend at e
  split at e
  · cases e; exact .inl ⟨.inl rfl, rfl⟩
  · cases e; exact .inl ⟨.inr ⟨_, _, rfl⟩, rfl⟩
  · split at e
    · rename_i b n f hb
      cases e; exact .inr ⟨_, _, _, rfl, hb, rfl⟩
    · cases e
  · cases e

/-- The new elements go behind the old. -/
def putNew (A : Option Addr) (n : Nat) (vs : List Value) : Sem Unit := match A with
  | some a => storeCells (a.add n) vs
  | none => pure ()
theorem Rel.kills {a : AV} {rd : List Nat} {kill : List (Nat × Blk)} (hr : Rel B φ K h w) (e : aop.canAppend (fun b => h[b]?) a = some (rd, kill)) : Rel B φ K (applyWr h kill) w ∧ (applyWr h kill).length = h.length := by
  rcases canAppend_spec e with ⟨_, rfl⟩ | ⟨b, n, f, _, hb, rfl⟩
  · exact ⟨hr, rfl⟩
  · have hlt : b < h.length := by rcases Nat.lt_or_ge b h.length with h' | h'; exact h'; simp [List.getElem?_eq_none h'] at hb
    refine ⟨hr.kill hlt, ?_⟩
    show (hset h b .dead).length = _
    rw [hset_length h b _ (Nat.le_of_lt hlt)]
    split <;> omega
theorem applyWr_append (h : List Blk) (l m : List (Nat × Blk)) : applyWr h (l ++ m) = applyWr (applyWr h l) m := by
  induction l generalizing h with
  | nil => rfl
  | cons x l ih => obtain ⟨b, y⟩ := x; exact ih _
theorem sim_append {c : Call} (ho : o.op = .call c) (hc : c.callee = .builtin .append) (hr : Rel B φ K h w) (hs : slot ≤ h.length) (hφ : φ slot = none) (hρ : ∀ x v, ρ x = some v → Den K φ v (ρc x)) (e : aop P ρ (fun b => h[b]?) slot o = some (true, r)) : Sim B φ K h w slot ((execOp ρc o).run P w) r := by
  simp only [aop, ho, hc] at e
  split at e
  · rename_i a b t u us hxy hty
    split at e
    · rename_i el el' n f m g hu hu2 ha hb
      split at e
      · rename_i i z hi hz
        split at e
        · rename_i rd kill hcan
          simp only [Option.some.injEq, Prod.mk.injEq, Bool.and_eq_true, decide_eq_true_eq] at e
          obtain ⟨⟨⟨⟨⟨⟨hroom, ok1⟩, ok2⟩, hs1⟩, hs2⟩, hz3⟩, rfl⟩ := e
          have hs1 : 1 ≤ i.size := Nat.le_of_ble_eq_true hs1
          have hs2 : 1 ≤ i.bytes := Nat.le_of_ble_eq_true hs2
          have hz3 : (cellsOf z).length = i.size := Nat.eq_of_beq_eq_true hz3
          have hd := evs2_den hρ hxy
          obtain ⟨ca, cb, hl⟩ : ∃ ca cb, c.args.toList.map ρc = [ca, cb] := by
            have := hd.1
            match hm : c.args.toList.map ρc with
            | [ca, cb] => exact ⟨ca, cb, rfl⟩
            | [] => rw [hm] at this; simp at this
            | [_] => rw [hm] at this; simp at this
            | _ :: _ :: _ :: _ => rw [hm] at this; simp at this
          rw [hl] at hd
          have da := hd.2 0 _ _ rfl rfl
          have db := hd.2 1 _ _ rfl rfl
          obtain ⟨A, cap, cf, rfl, hcap, RA⟩ := rowIs da ha ok1
          obtain ⟨A', cap', cg, rfl, hcap', RB⟩ := rowIs db hb ok2
          obtain ⟨zv, hzr, hzd⟩ := zeroT_run hz
          have hzs : zv.cells.size = i.size := by have := (ofV_den hzd K φ).cells.1; simp at this; omega
          have hsz : ∀ w : World, (sizeOf el).run P w = .ok i.size w := fun w => by simp [sizeOf, typeInfo, hi]
          have hargs : (c.args.map ρc)[0]? = some (.slice A n cap) ∧ (c.args.map ρc)[1]? = some (.slice A' m cap') := by
            have h2 : (c.args.map ρc).toList = [.slice A n cap, .slice A' m cap'] := by simpa using hl
            constructor
            · rw [← Array.getElem?_toList, h2]; rfl
            · rw [← Array.getElem?_toList, h2]; rfl
          have htys : c.argTypes[0]? = some t ∧ c.argTypes[1]? = some u := by
            constructor
            · rw [← Array.getElem?_toList, hty]; rfl
            · rw [← Array.getElem?_toList, hty]; rfl
          have hw : ∀ cb o v, K cb o = some v → w.cell? ⟨cb, o, none⟩ = some v := fun cb o v hv => (hr.stab cb o v hv).1
          have hrunE : (execOp ρc o).run P w = ((Builtin.append_ c.argTypes o.type (c.args.map ρc)).run P w).andThen fun v w' => .ok (.value v) w' := by
            simp [execOp, ho, resolve, hc, invoke, builtin]
          have hold := RA.first (P := P) (cap := cap) hs1 hw
          have hnew := RB.first (P := P) (cap := cap') hs1 hw
          by_cases hgrow : n + m ≤ cap
          · -- there is room
            have hrun0 : (Builtin.append_ c.argTypes o.type (c.args.map ρc)).run P w =
                ((putNew A (n * i.size) ((List.range (m * i.size)).map (flatR i.size cg))).run P w).andThen fun _ w' => .ok (.slice A (n + m) cap) w' := by
              simp only [Builtin.append_, htys.1, htys.2, hargs.1, hargs.2, Sem.run_bind, run_underlying hu w, run_underlying hu2 w, Result.andThen_ok, hsz w, Sem.run_pure, Builtin.lenOf, Bool.not_false, if_true, Bool.false_eq_true, if_false, hgrow, hnew]
              cases A <;> simp [putNew]
            by_cases hm : m = 0
            · subst hm
              have hrun : (execOp ρc o).run P w = .ok (.value (.slice A n cap)) w := by
                rw [hrunE, hrun0]
                simp only [Nat.zero_mul, List.range_zero, List.map_nil]
                cases A <;> simp [putNew, storeCells]
              rw [hrun]
              have hros : Den K φ (.ros false (n + 0) (appF n f g)) (.slice A (n + 0) cap) := by
                rcases RA.ad with h0 | ⟨cb, oo, rfl, hk⟩
                · subst h0; exact .rosn ..
                · exact den_app RA RB cap hgrow (fun j l hj hl => by unfold cvApp; rw [if_pos (by omega)]; exact hk j l (by omega) hl) φ
              obtain ⟨hk1, hk2⟩ := hr.kills hcan
              have hcapn : (cap = n) ∨ ∃ b' n' f' gb, a = .osl b' n' f' ∧ h[b']? = some .own ∧ φ b' = some gb ∧ ∃ (ad : Addr) (esz : Nat), 0 < n ∧ A = some ad ∧ ad.block = gb.cb ∧ ad.spot = none ∧ ad.off + n * esz = gb.e ∧ ad.off + cap * esz ≤ gb.tot ∧ ∀ j : Nat, j < n → (cellsOf (f j)).length = esz := by
                rcases canAppend_spec hcan with ⟨hx | ⟨n', f', hx⟩, _⟩ | ⟨b', n', f', hx, hown, _⟩
                · subst hx; cases da; cases ha; exact .inl rfl
                · subst hx; cases ha; cases da with
                  | rosf => exact .inl rfl
                  | ros _ _ _ _ _ _ _ _ _ _ hfull => exact .inl (hfull rfl)
                · subst hx
                  cases ha
                  cases da with
                  | osl _ _ _ _ _ _ hown2 =>
                    rcases hown2 A n cap rfl with h1 | ⟨gb, ad, esz, h1, h2, h3⟩
                    · exact .inl h1
                    · exact .inr ⟨b', n, f, gb, rfl, hown, h2, ad, esz, h1, h3⟩
              rcases hcapn with hcn | ⟨b', n', f', gb, rfl, hown, hgb, ad, esz, q1, q2, q3, q4, q5, q6, q7⟩
              · refine ⟨_, φ, K, w, rfl, Ext.refl _ _, KN.refl _ _, ?_, Below.refl _ _, fun _ _ => rfl, .inl ⟨_, rfl, .osl _ slot _ _ _ hros (fun A2 m2 cap2 hv => .inl (by cases hv; exact hcn))⟩⟩
                rw [applyWr_append]
                exact hk1.ownNone (by rw [hk2]; exact hs) hφ
              · have hkill : kill = [(b', .dead)] := by
                  rcases canAppend_spec hcan with ⟨hx | ⟨n', f', hx⟩, _⟩ | ⟨b2, n2, f2, hx, _, hk⟩
                  · cases hx
                  · cases hx
                  · cases hx; exact hk
                subst hkill
                have hne : slot ≠ b' := fun e => by rw [e, hgb] at hφ; cases hφ
                have hlt : b' < h.length := by rcases Nat.lt_or_ge b' h.length with h' | h'; exact h'; simp [List.getElem?_eq_none h'] at hown
                refine ⟨_, upd φ slot gb, K, w, rfl, upd_ext gb hφ, KN.refl _ _, ?_, Below.refl _ _, fun i hi => by unfold upd; rw [if_neg hi], .inl ⟨_, rfl, .osl _ slot _ _ _ (hros.mono (upd_ext gb hφ)) (fun A2 m2 cap2 hv => ?_)⟩⟩
                · rw [applyWr_append]
                  refine hk1.fill (by rw [hk2]; exact hs) hφ .own gb (hr.blk b' _ gb hown hgb) (hr.own b' _ gb hown rfl hgb).1 rfl (fun i b k hb hl hk e => ?_) (fun o v hv => ⟨rfl, ((hr.stab _ _ _ hv).2 b' _ gb hown rfl hgb rfl).2⟩)
                  change (hset h b' .dead)[i]? = some b at hb
                  rw [hset_get h b' i _ (Nat.le_of_lt hlt)] at hb
                  by_cases ei : i = b'
                  · rw [if_pos ei] at hb; cases hb; simp [Blk.live] at hl
                  · rw [if_neg ei] at hb; exact ei (hr.inj i b' b _ k gb hb hown hl rfl hk hgb e)
                · cases hv
                  refine .inr ⟨gb, ad, esz, by omega, upd_same _ _ _, q2, q3, q4, q5, q6, fun j hj => ?_⟩
                  rw [appF_lt (by omega)]; exact q7 j (by omega)
            · -- stored behind
              have hm0 : 0 < m := by omega
              rcases canAppend_spec hcan with ⟨hx | ⟨n', f', hx⟩, _⟩ | ⟨b', n', f', hx, hown, hkill⟩
              · subst hx; cases da; cases ha; omega
              · subst hx; cases ha; cases da with
                | rosf => omega
                | ros _ _ _ _ _ _ _ _ _ _ hfull => have := hfull rfl; omega
              · subst hx
                cases ha
                subst hkill
                have da0 := da
                cases da with
                | osl _ _ _ _ _ _ hown2 =>
                  rcases hown2 A n cap rfl with h1 | ⟨gb, ad, esz, h1, hgb, rfl, h3, h4, h5, h6, h7⟩
                  · omega
                  · have hes : esz = i.size := by rw [← h7 0 h1]; exact RA.len 0 h1
                    subst hes
                    obtain ⟨blk, off, spot⟩ := ad
                    simp only at h3 h4 h5 h6
                    subst h3 h4
                    obtain ⟨cvs, t0, hblk, htot⟩ := hr.blk b' _ gb hown hgb
                    have hgB := (hr.own b' _ gb hown rfl hgb).1
                    have hlt : b' < h.length := by rcases Nat.lt_or_ge b' h.length with h' | h'; exact h'; simp [List.getElem?_eq_none h'] at hown
                    have hne : slot ≠ b' := fun e => by rw [e, hgb] at hφ; cases hφ
                    have hmul : n * i.size + m * i.size ≤ cap * i.size := by rw [← Nat.add_mul]; exact Nat.mul_le_mul_right _ hgrow
                    obtain ⟨vals, hvals⟩ : ∃ vals, vals = (List.range (m * i.size)).map (flatR i.size cg) := ⟨_, rfl⟩
                    have hvl : vals.length = m * i.size := by rw [hvals]; simp
                    have hv1 : ∀ v ∈ vals, v.oneCell' = true := by
                      intro v hv
                      rw [hvals] at hv
                      obtain ⟨k, hk, rfl⟩ := List.mem_map.1 hv
                      have hk := List.mem_range.1 hk
                      rcases RB.ad with h0 | ⟨cb2, o2, _, hk2⟩
                      · omega
                      · exact hr.one _ _ _ (hk2 (k / i.size) (k % i.size) ((Nat.div_lt_iff_lt_mul hs1).2 hk) (Nat.mod_lt _ hs1))
                    have hfit : gb.e + vals.length ≤ cvs.size := by rw [hvl]; omega
                    have hput : (putNew (some ⟨gb.cb, off, none⟩) (n * i.size) vals).run P w = .ok () (w.setCells gb.cb gb.e vals) := by
                      have hth := there_of_block hblk hfit
                      have := run_storeCells_cells (P := P) gb.cb gb.e vals 0 w (fun j hj => by simpa using (hth j hj).1) (fun j hj => by simpa using (hth j hj).2) hv1
                      simp only [Nat.add_zero] at this
                      simp only [putNew, Addr.add_mid, h5]
                      exact this
                    have hrun : (execOp ρc o).run P w = .ok (.value (.slice (some ⟨gb.cb, off, none⟩) (n + m) cap)) (w.setCells gb.cb gb.e vals) := by
                      rw [hrunE, hrun0, ← hvals, hput]; rfl
                    obtain ⟨ds, hblk', hds⟩ := heap_setCells gb.cb t0 vals gb.e w cvs hblk hfit
                    obtain ⟨r1, r2, r3, r4⟩ := setCells_rest gb.cb vals gb.e w
                    have hoth : ∀ k, k ≠ gb.cb → (w.setCells gb.cb gb.e vals).heap[k]? = w.heap[k]? := fun k hk => heap_setCells_other gb.cb k hk _ _ _
                    have hcell : ∀ q, (w.setCells gb.cb gb.e vals).cell? ⟨gb.cb, q, none⟩ = ds[q]? := fun q => cell_of_row _ _ _ _ _ _ hblk'
                    have hcell0 : ∀ q, w.cell? ⟨gb.cb, q, none⟩ = cvs[q]? := fun q => cell_of_row _ _ _ _ _ _ hblk
                    have hlow : ∀ q, q < gb.e → ds[q]? = cvs[q]? := fun q hq => by
                      rw [← Array.getElem?_toList, hds, List.append_assoc, List.getElem?_append_left (by simp; omega), List.getElem?_take, if_pos hq, Array.getElem?_toList]
                    have hmid : ∀ q, q < m * i.size → ds[gb.e + q]? = some (flatR i.size cg q) := fun q hq => by
                      rw [← Array.getElem?_toList, hds, List.append_assoc, List.getElem?_append_right (by simp; omega), List.getElem?_append_left (by simp; omega)]
                      rw [hvals]
                      simp [show min gb.e cvs.size = gb.e by omega, hq]
                    have hKlt : ∀ q v, K gb.cb q = some v → q < gb.e := fun q v hv => ((hr.stab _ _ _ hv).2 b' _ gb hown rfl hgb rfl).2
                    let K' : Ks := fun cb q => if cb = gb.cb ∧ gb.e ≤ q ∧ q < gb.e + m * i.size then some (flatR i.size cg (q - gb.e)) else K cb q
                    have hKK : ∀ cb q v, K cb q = some v → K' cb q = some v := fun cb q v hv => by
                      show (if _ then _ else _) = _
                      rw [if_neg]; exact hv
                      rintro ⟨rfl, e1, _⟩
                      have := hKlt q v hv; omega
                    have hnob : ∀ (j : Nat) (b : Blk) (k : GB), (hset h b' .dead)[j]? = some b → b.live = true → φ j = some k → k.cb ≠ gb.cb := by
                      intro j b k hb hl hk e
                      rw [hset_get h b' j _ (Nat.le_of_lt hlt)] at hb
                      by_cases ej : j = b'
                      · rw [if_pos ej] at hb; cases hb; simp [Blk.live] at hl
                      · rw [if_neg ej] at hb; exact ej (hr.inj j b' b _ k gb hb hown hl rfl hk hgb e)
                    have k1 : Rel B φ K (hset h b' .dead) w := hr.kill hlt
                    have k2 : Rel B φ K (hset h b' .dead) (w.setCells gb.cb gb.e vals) := k1.free gb.cb gb.e hnob hKlt r1 hoth (fun q hq => by rw [hcell, hcell0, hlow q hq])
                    have k3 : Rel B φ K' (hset h b' .dead) (w.setCells gb.cb gb.e vals) := by
                      refine k2.more hKK (fun cb q v hv => ?_)
                      change (if _ then _ else _) = _ at hv
                      split at hv
                      · rename_i hc
                        obtain ⟨rfl, e1, e2⟩ := hc
                        have hq := hmid (q - gb.e) (by omega)
                        rw [show gb.e + (q - gb.e) = q by omega] at hq
                        cases hv
                        refine .inr ⟨hv1 _ (by rw [hvals]; exact List.mem_map.2 ⟨q - gb.e, List.mem_range.2 (by omega), rfl⟩), by rw [hcell]; exact hq, fun j b k hb hl hk e => absurd e (hnob j b k hb hl hk)⟩
                      · exact .inl hv
                    have hdl : ds.size = cvs.size := by
                      have := congrArg List.length hds
                      simp at this; omega
                    rw [hrun]
                    refine ⟨_, upd φ slot ⟨gb.cb, gb.e + m * i.size, gb.tot⟩, K', _, rfl, (⟨fun _ _ h => h, hKK⟩ : Ext φ K φ K').trans (upd_ext _ hφ), (fun cb q v hv => by
                      change (if _ then _ else _) = _ at hv
                      split at hv
                      · rename_i hc; exact .inr (by rw [hc.1]; exact hgB)
                      · exact .inl hv), ?_, ⟨r2, r3, r4, by rw [r1]; exact Nat.le_refl _, fun k hk => hoth k (by omega)⟩, fun j hj => by unfold upd; rw [if_neg hj], .inl ⟨_, rfl, .osl _ slot _ _ _ ?_ (fun A2 m2 cap2 hv => ?_)⟩⟩
                    · rw [applyWr_append]
                      refine k3.fill (by rw [hset_length h b' _ (Nat.le_of_lt hlt)]; split <;> omega) hφ .own _ ⟨ds, t0, hblk', by rw [hdl]; exact htot⟩ hgB rfl hnob (fun q v hv => ⟨rfl, ?_⟩)
                      change (if _ then _ else _) = _ at hv
                      simp only at hv ⊢
                      split at hv
                      · rename_i hc; exact hc.2.2
                      · have := hKlt q v hv; omega
                    · refine den_app (RA.mono hKK) (RB.mono hKK) cap hgrow (fun j l hj hl => ?_) _
                      unfold cvApp
                      rcases Nat.lt_or_ge j n with hjn | hjn
                      · rw [if_pos hjn]
                        rcases RA.ad with h0 | ⟨cb2, o2, he, hk2⟩
                        · omega
                        · cases he; exact hKK _ _ _ (hk2 j l hjn hl)
                      · rw [if_neg (by omega)]
                        have e1 : j * i.size = n * i.size + (j - n) * i.size := by rw [← Nat.add_mul]; congr 1; omega
                        have e2 : (j - n) * i.size + l < m * i.size := by
                          have : (j - n) * i.size + i.size ≤ m * i.size := by rw [← Nat.succ_mul]; exact Nat.mul_le_mul_right _ (by omega)
                          omega
                        show (if _ then _ else _) = _
                        rw [if_pos ⟨rfl, by omega, by omega⟩, show off + j * i.size + l - gb.e = (j - n) * i.size + l by omega, flatR_at cg hl]
                    · cases hv
                      refine .inr ⟨_, _, i.size, by omega, upd_same _ _ _, rfl, rfl, rfl, by simp only; rw [Nat.add_mul]; omega, h6, fun j hj => ?_⟩
                      rcases Nat.lt_or_ge j n with hjn | hjn
                      · rw [appF_lt hjn]; exact RA.len j hjn
                      · rw [appF_ge hjn]; exact RB.len _ (by omega)
          · -- a new row
            have hlt : cap < n + m := by omega
            have hbytes : ∀ q : Nat, q * (i.bytes + i.size) < 2 ^ 40 → q * i.bytes < 2 ^ 40 := fun q hq => Nat.lt_of_le_of_lt (Nat.mul_le_mul_left _ (by omega)) hq
            have hb0 := hbytes _ hroom
            have hneed : n + m < 2 ^ 40 := Nat.lt_of_le_of_lt (Nat.le_mul_of_pos_right _ hs2) hb0
            have hcapb : ¬ (Builtin.nextslicecap (n + m) cap * i.bytes > 2 ^ 48) := by
              have h1 := nextcap_le (n + m) cap hlt
              have h2 : Builtin.nextslicecap (n + m) cap * i.bytes ≤ (2 * (n + m) + 192) * i.bytes := Nat.mul_le_mul_right _ h1
              have h3 : (2 * (n + m) + 192) * i.bytes = 2 * ((n + m) * i.bytes) + 192 * i.bytes := by rw [Nat.add_mul, Nat.mul_assoc]
              have h4 : i.bytes ≤ (n + m) * i.bytes := Nat.le_mul_of_pos_left _ (by omega)
              omega
            have hsigned : ¬ (((n + m : Nat) : Int) > IntKind.i64.max ∧ (False ∨ i.bytes = 0)) := by
              rintro ⟨_, h | h⟩
              · exact h
              · omega
            obtain ⟨tq, htq⟩ : ∃ tq, tq = (Question.appendCap (n + m) cap el).cut (w.tape w.drawn (.appendCap (n + m) cap el)) := ⟨_, rfl⟩
            have hge : n + m ≤ tq := by rw [htq]; simp [Question.cut]
            obtain ⟨C, hC⟩ : ∃ C, C = ((List.range (n * i.size)).map (flatR i.size cf)).toArray ++ ((List.range (m * i.size)).map (flatR i.size cg)).toArray ++ Builtin.zeroCells zv.cells (tq - (n + m)) := ⟨_, rfl⟩
            have hold2 := RA.first (P := P) (cap := cap) (w := w.drew) hs1 hw
            have hnew2 := RB.first (P := P) (cap := cap') (w := w.drew) hs1 hw
            have hrun : (execOp ρc o).run P w = .ok (.value (.slice (some ⟨w.heap.size, 0, none⟩) (n + m) tq)) (w.drew.alloc (.cells C el)) := by
              rw [hrunE]
              have hti : ∀ w : World, (typeInfo el).run P w = .ok i w := fun w => by simp [typeInfo, hi]
              simp only [Builtin.append_, htys.1, htys.2, hargs.1, hargs.2, Sem.run_bind, run_underlying hu w, run_underlying hu2 w, Result.andThen_ok, hsz w, Sem.run_pure, Builtin.lenOf, Bool.not_false, if_true, Bool.false_eq_true, if_false, hgrow, hti w, hsigned, hcapb]
              rw [run_choose]
              simp only [Question.forced, Bool.false_eq_true, if_false, Result.andThen_ok, ← htq, World.drew_eq]
              simp only [hti w.drew, Result.andThen_ok, run_askRoom, hold2, hnew2, hzr w.drew, newRow, Sem.run_bind, run_newObj, Sem.run_pure, World.alloc_eq, ← hC]
              rfl
            obtain ⟨hk1, hk2⟩ := hr.kills hcan
            have hg : Grow w (w.drew.alloc (.cells C el)) := (Grow.drew w).trans (Grow.alloc _ _)
            have hCn : ∀ q, q < n * i.size → C[q]? = some (flatR i.size cf q) := fun q hq => by
              rw [hC, Array.getElem?_append, if_pos (by simp; omega), Array.getElem?_append, if_pos (by simp; omega)]
              simp [hq]
            have hCm : ∀ q, q < m * i.size → C[n * i.size + q]? = some (flatR i.size cg q) := fun q hq => by
              rw [hC, Array.getElem?_append, if_pos (by simp; omega), Array.getElem?_append, if_neg (by simp)]
              simp [hq]
            have hCsz : C.size = tq * i.size := by
              rw [hC]
              simp only [Array.size_append, List.size_toArray, List.length_map, List.length_range, Builtin.zeroCells, Array.size_map, Array.size_range, hzs]
              rw [← Nat.add_mul, ← Nat.add_mul]; congr 1; omega
            let K' : Ks := fun cb q => if cb = w.heap.size then (if q < (n + m) * i.size then C[q]? else none) else K cb q
            have hKne : ∀ cb q v, K cb q = some v → cb ≠ w.heap.size := fun cb q v hv e => by
              have := World.block_lt_of_cell? w _ (hr.stab _ _ _ hv).1
              simp at this; omega
            have hKK : ∀ cb q v, K cb q = some v → K' cb q = some v := fun cb q v hv => by
              show (if _ then _ else _) = _
              rw [if_neg (hKne cb q v hv)]; exact hv
            have hsame : ∀ (j l : Nat), j < n + m → l < i.size → C[j * i.size + l]? = some (cvApp n cf cg j l) ∧ j * i.size + l < (n + m) * i.size := fun j l hj hl => by
              have hb : j * i.size + l < (n + m) * i.size := by
                have : j * i.size + i.size ≤ (n + m) * i.size := by rw [← Nat.succ_mul]; exact Nat.mul_le_mul_right _ hj
                omega
              refine ⟨?_, hb⟩
              unfold cvApp
              rcases Nat.lt_or_ge j n with hjn | hjn
              · rw [if_pos hjn]
                have : j * i.size + i.size ≤ n * i.size := by rw [← Nat.succ_mul]; exact Nat.mul_le_mul_right _ hjn
                rw [hCn _ (by omega), flatR_at cf hl]
              · rw [if_neg (by omega)]
                have e1 : j * i.size = n * i.size + (j - n) * i.size := by rw [← Nat.add_mul]; congr 1; omega
                have e2 : (j - n) * i.size + l < m * i.size := by
                  have : (j - n) * i.size + i.size ≤ m * i.size := by rw [← Nat.succ_mul]; exact Nat.mul_le_mul_right _ (by omega)
                  omega
                rw [e1, Nat.add_assoc, hCm _ e2, flatR_at cg hl]
            have hone : ∀ q v, q < (n + m) * i.size → C[q]? = some v → v.oneCell' = true := fun q v hq hv => by
              rcases Nat.lt_or_ge q (n * i.size) with h' | h'
              · rw [hCn q h'] at hv; cases hv
                rcases RA.ad with h0 | ⟨cb2, o2, _, hk2⟩
                · subst h0; omega
                · exact hr.one _ _ _ (hk2 (q / i.size) (q % i.size) ((Nat.div_lt_iff_lt_mul hs1).2 h') (Nat.mod_lt _ hs1))
              · have hq2 : q - n * i.size < m * i.size := by rw [Nat.add_mul] at hq; omega
                rw [show q = n * i.size + (q - n * i.size) by omega, hCm _ hq2] at hv; cases hv
                rcases RB.ad with h0 | ⟨cb2, o2, _, hk2⟩
                · subst h0; omega
                · exact hr.one _ _ _ (hk2 ((q - n * i.size) / i.size) ((q - n * i.size) % i.size) ((Nat.div_lt_iff_lt_mul hs1).2 hq2) (Nat.mod_lt _ hs1))
            have hnob : ∀ (j : Nat) (b : Blk) (k : GB), (applyWr h kill)[j]? = some b → b.live = true → φ j = some k → k.cb ≠ w.heap.size := fun j b k hb hl hk e => by
              have := (hk1.own j b k hb hl hk).2; omega
            have hblk : (w.drew.alloc (.cells C el)).heap[w.heap.size]? = some (.cells C el (0, 0)) := heap_alloc_new w.drew _
            have k3 : Rel B φ K' (applyWr h kill) (w.drew.alloc (.cells C el)) := by
              refine (hk1.grow hg).more hKK (fun cb q v hv => ?_)
              change (if _ then _ else _) = _ at hv
              split at hv
              · rename_i hc
                subst hc
                split at hv
                · rename_i hq
                  exact .inr ⟨hone q v hq hv, by rw [cell_of_row _ _ _ _ _ _ hblk]; exact hv, fun j b k hb hl hk e => absurd e (hnob j b k hb hl hk)⟩
                · cases hv
              · exact .inl hv
            rw [hrun]
            refine ⟨_, upd φ slot ⟨w.heap.size, (n + m) * i.size, tq * i.size⟩, K', _, rfl, (⟨fun _ _ h => h, hKK⟩ : Ext φ K φ K').trans (upd_ext _ hφ), (fun cb q v hv => by
              change (if _ then _ else _) = _ at hv
              split at hv
              · rename_i hc; exact .inr (by rw [hc]; exact hr.base)
              · exact .inl hv), ?_, hg.toBelow hr.base, fun j hj => by unfold upd; rw [if_neg hj], .inl ⟨_, rfl, .osl _ slot _ _ _ ?_ (fun A2 m2 cap2 hv => ?_)⟩⟩
            · rw [applyWr_append]
              refine k3.fill (by rw [hk2]; exact hs) hφ .own _ ⟨C, el, hblk, by rw [hCsz]; exact Nat.le_refl _⟩ hr.base rfl hnob (fun q v hv => ⟨rfl, ?_⟩)
              change (if _ then _ else _) = _ at hv
              rw [if_pos rfl] at hv
              split at hv
              · assumption
              · cases hv
            · refine den_app (RA.mono hKK) (RB.mono hKK) tq hge (fun j l hj hl => ?_) _
              obtain ⟨e1, e2⟩ := hsame j l hj hl
              show (if _ then _ else _) = _
              rw [if_pos rfl, Nat.zero_add, if_pos e2, e1]
            · cases hv
              refine .inr ⟨_, _, i.size, by omega, upd_same _ _ _, rfl, rfl, rfl, by simp, by simp, fun j hj => ?_⟩
              rcases Nat.lt_or_ge j n with hjn | hjn
              · rw [appF_lt hjn]; exact RA.len j hjn
              · rw [appF_ge hjn]; exact RB.len _ (by omega)
        · cases e
      · cases e
    · cases e
  · cases e
end ops
end Go.Proofs.Ytdhlbfhfenomcaa.Ab
