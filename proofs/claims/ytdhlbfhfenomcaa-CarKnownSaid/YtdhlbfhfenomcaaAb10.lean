/- One operation of a region; a region that does not draw; code without regions that draw. -/
import Derived.Test.YtdhlbfhfenomcaaAb9
namespace Go.Proofs.Ytdhlbfhfenomcaa.Ab
open Go Go.RowKit
set_option linter.unusedVariables false
set_option linter.unusedSimpArgs false

theorem den_undef (K : Ks) (φ : Ph) : Den K φ (.tup []) undef := Den.tup_iff.2 ⟨#[], rfl, DenL.nil _ _⟩
theorem put_defers' (a : Act) (d : Option Tmp) (v : Value) : (a.put d v).defers = a.defers := by cases d <;> rfl

theorem lookC_D {R : Type} {eq : AV → Option Bool} {k : Option AV → Option R} {x : R} : ∀ {es : List (AV × AV)}, lookC eq es k = some x → ∃ r, lookD eq es = some r ∧ k r = some x := by
  intro es
  induction es with
  | nil => intro e; exact ⟨none, rfl, e⟩
  | cons en es ih =>
    intro e
    obtain ⟨b, a⟩ := en
    unfold lookC at e
    unfold lookD
    cases hb : eq b with
    | none => rw [hb] at e; cases e
    | some c =>
      rw [hb] at e
      cases c with
      | true => exact ⟨_, rfl, e⟩
      | false => exact ih e

section
variable {R : Type} {P : Program} {cl : Bool} {call : CallC R} {B : Nat} {φ : Ph} {K : Ks} {w : World} {a : Act} {x : R}

/-- What one operation leaves. -/
def NextC (B : Nat) (φ : Ph) (K : Ks) (w : World) (n slot : Nat) (k : St → Res → Option R) (x : R) (a' : Act) (w' : World) : Prop :=
  ∃ s' r φ' K', k s' r = some x ∧ Ext φ K φ' K' ∧ KN B K K' ∧ StOK B φ' K' s' a' w' ∧ Below B w w' ∧ n ≤ s'.h.length ∧ ∀ i, i < n → i ≠ slot → φ' i = φ i

theorem callee_run {t : BT} {c : Call} {f : FuncId} {as : List AV} (e : callee t c = some (f, as)) (hf : FD K φ t a.tmps) (ty : TypeId) :
    ∃ cap args : Array Value, (∀ w : World, (resolve a.eval c ty).run P w = .ok ⟨.fn (.func f) cap, args⟩ w) ∧ DenL K φ as (args ++ cap).toList := by
  unfold callee at e
  split at e
  · rename_i g hg
    split at e
    · rename_i gg first caps vs h1 h2
      cases e
      have d1 := ev_den hf h1
      have d2 := evs_den hf h2
      generalize hcx : a.eval g = cx at d1
      cases d1 with
      | fn _ _ _ _ ca cb l1 p1 l2 p2 =>
        refine ⟨cb, ca ++ c.args.map a.eval, fun w => by simp [resolve, hg, hcx, Deferred.ofValue], ?_⟩
        have q1 : DenL K φ first ca.toList := ⟨by simpa using l1, fun i u v hu hv => p1 i u v hu (by simpa using hv)⟩
        have q2 : DenL K φ caps cb.toList := ⟨by simpa using l2, fun i u v hu hv => p2 i u v hu (by simpa using hv)⟩
        simpa using DenL.append (DenL.append q1 d2) q2
    · cases e
  · cases e

theorem opC_sound {slot : Nat} {o : Oper} {s : St} {k : St → Res → Option R} (hcall : CallOK P call) (e : opC P cl call slot o s k = some x) (ok : StOK B φ K s a w) (hs : slot ≤ s.h.length) (hφ : φ slot = none) (Q : Exit → Act → World → Prop) :
    o.wp P a w (NextC B φ K w s.h.length slot k x) Q := by
  have hplain : (match aop P (ev s.t) (fun b => s.h[b]?) slot o with
    | some (c, r) => cond c (forceA cl r.v fun v => putK s.t o.dst v fun t => k { s with t := t, h := applyWr s.h r.wr } r) none
    | none => none) = some x → o.wp P a w (NextC B φ K w s.h.length slot k x) Q := by
    intro e
    split at e
    · rename_i c r hop
      cases c with
      | false => cases e
      | true =>
        simp only [cond_true, forceA_eq, putK_eq] at e
        obtain ⟨n, φ', K', w', h1, h2, h3, h4, h5, h6, h7⟩ := aop_sound ok.rel hs hφ (fun y v hv => ev_den ok.fd hv) hop
        unfold Oper.wp
        rw [h1]
        rcases h7 with ⟨cv, rfl, hd⟩ | ⟨rfl, hv⟩
        · exact ⟨_, r, φ', K', e, h2, h3, ⟨h4, (ok.fd.mono h2).putT _ hd, by rw [put_defers']; exact ok.df.mono h2⟩, h5, applyWr_le _ _, fun i _ hi => h6 i hi⟩
        · refine ⟨_, r, φ', K', e, h2, h3, ⟨h4, ?_, by rw [put_defers']; exact ok.df.mono h2⟩, h5, applyWr_le _ _, fun i _ hi => h6 i hi⟩
          rw [hv]
          exact (ok.fd.mono h2).putT _ (den_undef _ _)
    · cases e
  unfold opC at e
  cases hop : o.op with
  | call c =>
    rw [hop] at e
    simp only at e
    cases hc : c.callee with
    | builtin b => rw [hc] at e; exact hplain e
    | invoke y z => rw [hc] at e; simp [callee, hc] at e
    | value g =>
      rw [hc] at e
      simp only at e
      split at e
      · rename_i f as hcal
        obtain ⟨cap, args, h1, h2⟩ := callee_run (P := P) hcal ok.fd o.type
        obtain ⟨⟨fn, hfn, hbody, hname⟩, hC⟩ := hcall f as s.h _ x e B φ K w (args ++ cap) ok.rel h2
        have hrun : (execOp a.eval o).run P w = .ok (.enter f (args ++ cap)) w := by
          have hb : fn.body.isNone = false := by cases hh : fn.body with
            | none => rw [hh] at hbody; cases hbody
            | some _ => rfl
          have hnm : (fn.name == "runtime.NumGoroutine") = false := by simpa using hname
          simp only [execOp, hop, Sem.run_bind, h1 w, Result.andThen_ok, invoke, callFunc, run_program, hfn, hnm, hb, Bool.false_eq_true, if_false, Sem.run_pure]
        unfold Oper.wp
        rw [hrun]
        refine hC.mono fun en w' hx => ?_
        obtain ⟨v, h', φ', K', cv, rfl, g1, g2, g3, g4, g5, g6, g7, g8⟩ := hx
        dsimp only at g1
        rw [putK_eq] at g1
        exact ⟨_, _, φ', K', g1, g2, g3, ⟨g4, (ok.fd.mono g2).putT _ g6, by rw [put_defers']; exact ok.df.mono g2⟩, g5, g7, fun i hi _ => g8 i hi⟩
      · cases e
  | «defer» c =>
    rw [hop] at e
    simp only at e
    split at e
    · rename_i y hcal
      obtain ⟨f, as⟩ := y
      obtain ⟨cap, args, h1, h2⟩ := callee_run (P := P) hcal ok.fd o.type
      have hrun : (execOp a.eval o).run P w = .ok (.defer ⟨.fn (.func f) cap, args⟩) w := by
        simp only [execOp, hop, Sem.run_bind, h1 w, Result.andThen_ok, Sem.run_pure]
      unfold Oper.wp
      rw [hrun, Oper.upon_defer]
      rw [putK_eq] at e
      refine ⟨_, _, φ, K, e, Ext.refl _ _, KN.refl _ _, ⟨ok.rel, ?_, ?_⟩, Below.refl _ _, Nat.le_refl _, fun _ _ _ => rfl⟩
      · have hh := ok.fd.putT o.dst (den_undef K φ)
        have e2 : ∀ d : Deferred, ({ a with defers := d :: a.defers }.put o.dst undef).tmps = (a.put o.dst undef).tmps := fun d => by cases o.dst <;> rfl
        rw [e2]; exact hh
      · rw [put_defers']
        refine ⟨by simp [ok.df.1], fun i y z hy hz => ?_⟩
        cases i with
        | zero => cases hy; cases hz; exact ⟨cap, rfl, h2⟩
        | succ i => exact ok.df.2 i y z (by simpa using hy) (by simpa using hz)
    · cases e
  | lookup t m i c =>
    rw [hop] at e
    simp only at e
    split at e
    · rename_i b key kt et hm hi hu
      split at e
      · rename_i es z hb hz
        split at e
        · rename_i hkv
          have dm := ev_den ok.fd hm
          have di := ev_den ok.fd hi
          generalize hcm : a.eval m = cm at dm
          generalize hci : a.eval i = ci at di
          cases dm with
          | map _ _ g hg =>
            obtain ⟨ces, clock, hbk, hsz, hd⟩ := ok.rel.blk b _ g hb hg
            obtain ⟨r, hlr, hk⟩ := lookC_D e
            obtain ⟨q, hq, hr⟩ := findKey_run hkv di hlr (ces := ces.toList) (by rw [Array.length_toList]; exact hsz) (fun i e c he hc => hd i e c he (by simpa using hc))
            obtain ⟨zv, hzr, hzd⟩ := zeroT_run hz
            have hget : (getObj g.cb).run P w = .ok (.map ces clock) w := by simp only [getObj, Sem.run, hbk]
            have two : ∀ {a b : AV} {ca cb : Value}, Den K φ a ca → Den K φ b cb → Den K φ (.tup [a, b]) (.tuple #[ca, cb]) := fun ha hb => Den.tup_iff.2 ⟨_, rfl, DenL.cons ha (DenL.cons hb (DenL.nil _ _))⟩
            have hck : (Instr.checkKey ces.isEmpty 10000 kt ci).run P w = .ok () w := checkKey_key hkv di _ 9998 w
            rw [putK_eq] at hk
            have fin : ∀ (v : AV) (cv : Value) (bo : Bool), Den K φ v cv → (Instr.lookup t (.map (some g.cb)) ci c).run P w = .ok (if c then .tuple #[cv, .bool bo] else cv) w →
                (∃ rr, k { s with t := putT s.t o.dst (cond c (.tup [v, .bool bo]) v) } rr = some x) → o.wp P a w (NextC B φ K w s.h.length slot k x) Q := by
              intro v cv bo hv hl hkk
              obtain ⟨rr, hkk⟩ := hkk
              unfold Oper.wp
              rw [show (execOp a.eval o).run P w = .ok (.value (if c then .tuple #[cv, .bool bo] else cv)) w by simp only [execOp, hop, hcm, hci, Sem.run_bind, hl, Result.andThen_ok, Sem.run_pure]]
              refine ⟨_, _, φ, K, hkk, Ext.refl _ _, KN.refl _ _, ⟨ok.rel, ok.fd.putT _ ?_, by rw [put_defers']; exact ok.df⟩, Below.refl _ _, Nat.le_refl _, fun _ _ _ => rfl⟩
              cases c
              · simpa using hv
              · simpa using two hv (.bool ..)
            have hq := hq w
            rcases hr with ⟨rfl, rfl⟩ | ⟨v, j, cv, rfl, rfl, hv⟩
            · refine fin z zv false (ofV_den hzd K φ) ?_ ⟨_, hk⟩
              simp only [Instr.lookup, Sem.run_bind, run_underlying hu w, Result.andThen_ok, hget, hck, hq, hzr w, Sem.run_pure]
            · refine fin v cv true hv ?_ ⟨_, hk⟩
              simp only [Instr.lookup, Sem.run_bind, run_underlying hu w, Result.andThen_ok, hget, hck, hq, Sem.run_pure]
        · cases e
      · cases e
    · cases e
  | _ => rw [hop] at e; exact hplain e
/-- What a piece of code comes to. -/
def exM : Exit → Ex → Prop
  | .normal, .normal => True
  | .ret, .ret => True
  | .exit i, .exit j => i = j
  | _, _ => False
def PostC (B : Nat) (φ : Ph) (K : Ks) (w : World) (n : Nat) (k : Ex → St → Option R) (x : R) (e : Exit) (a' : Act) (w' : World) : Prop :=
  ∃ ex s' φ' K', exM e ex ∧ k ex s' = some x ∧ Ext φ K φ' K' ∧ KN B K K' ∧ StOK B φ' K' s' a' w' ∧ Below B w w' ∧ n ≤ s'.h.length ∧ Keep n φ φ'

theorem opsC_sound (hcall : CallOK P call) {ops : Array Oper} {Q : Exit → Act → World → Prop} : ∀ (l : List Oper) (i : Nat) (s : St) (k : St → Option R) (φ : Ph) (K : Ks) (a : Act) (w : World), (∀ j, l[j]? = ops[i + j]?) → opsC P cl call ops l s k = some x → StOK B φ K s a w →
    (∀ (s' : St) (φ' : Ph) (K' : Ks) (a' : Act) (w' : World), k s' = some x → Ext φ K φ' K' → KN B K K' → StOK B φ' K' s' a' w' → Below B w w' → s.h.length ≤ s'.h.length → Keep s.h.length φ φ' → Q .normal a' w') →
    wpOps P ops Q (List.range' i l.length) a w := by
  intro l
  induction l with
  | nil => intro i s k φ K a w hl e ok hQ; exact hQ s φ K a w e (Ext.refl _ _) (KN.refl _ _) ok (Below.refl _ _) (Nat.le_refl _) (Keep.refl _ _)
  | cons o l ih =>
    intro i s k φ K a w hl e ok hQ
    have ho : ops[i]? = some o := by simpa using (hl 0).symm
    have hl' : ∀ j, l[j]? = ops[i + 1 + j]? := fun j => by have := hl (j + 1); simpa [Nat.add_assoc, Nat.add_comm 1 j] using this
    unfold opsC at e
    obtain ⟨t', hf, e⟩ := wantC_sound e ok.fd
    rw [List.length_cons, List.range'_succ]
    simp only [wpOps, ho]
    have step : ∀ (s' : St) (φ' : Ph) (K' : Ks) (a' : Act) (w' : World), opsC P cl call ops l s' k = some x → Ext φ K φ' K' → KN B K K' → StOK B φ' K' s' a' w' → Below B w w' → s.h.length ≤ s'.h.length → Keep s.h.length φ φ' → wpOps P ops Q (List.range' (i + 1) l.length) a' w' := by
      intro s' φ' K' a' w' e h1 h2 h3 h4 h5 h6
      exact ih (i + 1) s' k φ' K' a' w' hl' e h3 (fun s2 φ2 K2 a2 w2 g1 g2 g3 g4 g5 g6 g7 => hQ s2 φ2 K2 a2 w2 g1 (h1.trans g2) (h2.trans g3) g4 (h4.trans g5) (Nat.le_trans h5 g6) (h6.trans h5 g7))
    split
    · rename_i hw
      rw [hw] at e
      simp only [if_true] at e
      refine .inl ?_
      refine Oper.wp_mono (fun a' w' h => ?_) (opC_sound hcall e ⟨ok.rel, hf, ok.df⟩ (Nat.le_refl _) (ok.rel.fresh _ (Nat.le_refl _)) _)
      obtain ⟨s', r, φ', K', g1, g2, g3, g4, g5, g6, g7⟩ := h
      exact step s' φ' K' a' w' g1 g2 g3 g4 g5 g6 (fun i hi => g7 i hi (Nat.ne_of_lt hi))
    · rename_i hw
      have hw : Region.wanted o (yielded ops a.tmps) = false := by simpa using hw
      rw [hw] at e
      simp only [Bool.false_eq_true, if_false, putK_eq] at e
      exact step _ φ K _ w e (Ext.refl _ _) (KN.refl _ _) ⟨ok.rel, hf.putT _ (den_undef _ _), by rw [put_defers']; exact ok.df⟩ (Below.refl _ _) (Nat.le_refl _) (Keep.refl _ _)

/-- What is to be shown of regions that draw. -/
def DrawOK (P : Program) (cl : Bool) (pure : FuncId → Bool) (call0 : CallC (AV × List Blk)) (call : CallC R) : Prop :=
  ∀ (id : Nat) (ops : Array Oper) (s : St) (k : Ex → St → Option R) (x : R) (B : Nat) (φ : Ph) (K : Ks) (a : Act) (w : World), drOK ops = true → goRegion P cl pure call0 call ops true s k = some x → StOK B φ K s a w →
    (Code.region id ops true).wp P (PostC B φ K w s.h.length k x) a w

theorem rounds_mono {c : Code} {Q Q' : Exit → Act → World → Prop} (hq : ∀ e a w, Q e a w → Q' e a w) : ∀ (n : Nat) (a : Act) (w : World), Code.rounds P c Q n a w → Code.rounds P c Q' n a w := by
  intro n
  induction n with
  | zero => intro a w h; exact h
  | succ n ih =>
    intro a w h
    rw [rounds_succ] at h ⊢
    refine Code.wp_mono (fun e a w h => ?_) h
    cases e with
    | normal => exact ih _ _ h
    | _ => exact hq _ _ _ h
theorem loopC_sound {c : Code} {body : St → (Ex → St → Option R) → Option R} (hbody : ∀ (s : St) (k : Ex → St → Option R) (φ : Ph) (K : Ks) (a : Act) (w : World), body s k = some x → StOK B φ K s a w → c.wp P (PostC B φ K w s.h.length k x) a w) :
    ∀ (n : Nat) (s : St) (k : Ex → St → Option R) (φ : Ph) (K : Ks) (a : Act) (w : World), loopC body n s k = some x → StOK B φ K s a w → Code.rounds P c (PostC B φ K w s.h.length k x) n a w := by
  intro n
  induction n with
  | zero => intro s k φ K a w e; cases e
  | succ n ih =>
    intro s k φ K a w e ok
    have e' : body s (fun e s' => match e with
      | .normal => loopC body n s' k
      | .ret => k .ret s'
      | .exit i => k (.exit i) s') = some x := e
    have hb := hbody s _ φ K a w e' ok
    rw [rounds_succ]
    refine Code.wp_mono (fun e a' w' h => ?_) hb
    obtain ⟨ex, s', φ', K', h1, h2, h3, h4, h5, h6, h7, h8⟩ := h
    cases e with
    | normal =>
      cases ex with
      | normal =>
        have := ih s' k φ' K' a' w' h2 h5
        refine rounds_mono (fun e a w h => ?_) n _ _ this
        obtain ⟨ex, s2, φ2, K2, g1, g2, g3, g4, g5, g6, g7, g8⟩ := h
        exact ⟨ex, s2, φ2, K2, g1, g2, h3.trans g3, h4.trans g4, g5, h6.trans g6, Nat.le_trans h7 g7, h8.trans h7 g8⟩
      | ret => cases h1
      | exit i => cases h1
    | ret =>
      cases ex with
      | ret => exact ⟨.ret, s', φ', K', h1, h2, h3, h4, h5, h6, h7, h8⟩
      | normal => cases h1
      | exit i => cases h1
    | exit i =>
      cases ex with
      | exit j => exact ⟨.exit j, s', φ', K', h1, h2, h3, h4, h5, h6, h7, h8⟩
      | normal => cases h1
      | ret => cases h1
    | goto l => cases ex <;> cases h1
    | panic c => cases ex <;> cases h1
    | outgrown => cases ex <;> cases h1

theorem goC_sound {pure : FuncId → Bool} {call0 : CallC (AV × List Blk)} (hcall : CallOK P call) (hdraw : DrawOK P cl pure call0 call) (fuel : Nat) (c : Code) : codeOK c = true → ∀ (s : St) (k : Ex → St → Option R) (φ : Ph) (K : Ks) (a : Act) (w : World),
    goC P cl pure call0 call fuel c s k = some x → StOK B φ K s a w → c.wp P (PostC B φ K w s.h.length k x) a w := by
  induction c with
  | skip => intro _ s k φ K a w e ok; exact wp_skip ⟨.normal, s, φ, K, trivial, e, Ext.refl _ _, KN.refl _ _, ok, Below.refl _ _, Nat.le_refl _, Keep.refl _ _⟩
  | label l => intro _ s k φ K a w e ok; exact wp_label ⟨.normal, s, φ, K, trivial, e, Ext.refl _ _, KN.refl _ _, ok, Below.refl _ _, Nat.le_refl _, Keep.refl _ _⟩
  | ret => intro _ s k φ K a w e ok; exact wp_ret ⟨.ret, s, φ, K, trivial, e, Ext.refl _ _, KN.refl _ _, ok, Below.refl _ _, Nat.le_refl _, Keep.refl _ _⟩
  | exit id => intro _ s k φ K a w e ok; exact wp_exit ⟨.exit id, s, φ, K, rfl, e, Ext.refl _ _, KN.refl _ _, ok, Below.refl _ _, Nat.le_refl _, Keep.refl _ _⟩
  | goto l => intro _ s k φ K a w e ok; cases e
  | refuse y => intro _ s k φ K a w e ok; cases e
  | scope c _ => intro _ s k φ K a w e ok; cases e
  | rangeFunc f ps c d _ _ => intro _ s k φ K a w e ok; cases e
  | region id ops draw =>
    intro hok s k φ K a w e ok
    cases draw with
    | true => exact hdraw id ops s k x B φ K a w hok e ok
    | false =>
      have e' : opsC P cl call ops ops.toList s (fun s' => forceH s'.h fun h => k .normal { s' with h := h }) = some x := e
      refine wp_region ?_
      have := opsC_sound (Q := PostC B φ K w s.h.length k x) hcall ops.toList 0 s _ φ K a w (by simp) e' ok (fun s' φ' K' a' w' g1 g2 g3 g4 g5 g6 g7 => by
        rw [forceH_eq] at g1
        exact ⟨.normal, s', φ', K', trivial, g1, g2, g3, g4, g5, g6, g7⟩)
      rwa [Array.length_toList, ← List.range_eq_range'] at this
  | seq c d ihc ihd =>
    intro hok s k φ K a w e ok
    simp only [codeOK, Bool.and_eq_true] at hok
    refine wp_seq ?_
    have e' : goC P cl pure call0 call fuel c s (fun e s' => match e with
      | .normal => goC P cl pure call0 call fuel d s' k
      | .ret => k .ret s'
      | .exit i => k (.exit i) s') = some x := e
    refine Code.wp_mono (fun e a' w' h => ?_) (ihc hok.1 s _ φ K a w e' ok)
    obtain ⟨ex, s', φ', K', h1, h2, h3, h4, h5, h6, h7, h8⟩ := h
    cases e with
    | normal =>
      cases ex with
      | normal =>
        refine Code.wp_mono (fun e a w h => ?_) (ihd hok.2 s' k φ' K' a' w' h2 h5)
        obtain ⟨ex, s2, φ2, K2, g1, g2, g3, g4, g5, g6, g7, g8⟩ := h
        exact ⟨ex, s2, φ2, K2, g1, g2, h3.trans g3, h4.trans g4, g5, h6.trans g6, Nat.le_trans h7 g7, h8.trans h7 g8⟩
      | ret => cases h1
      | exit i => cases h1
    | ret =>
      cases ex with
      | ret => exact ⟨.ret, s', φ', K', h1, h2, h3, h4, h5, h6, h7, h8⟩
      | normal => cases h1
      | exit i => cases h1
    | exit i =>
      cases ex with
      | exit j => exact ⟨.exit j, s', φ', K', h1, h2, h3, h4, h5, h6, h7, h8⟩
      | normal => cases h1
      | ret => cases h1
    | goto l => cases ex <;> cases h1
    | panic c => cases ex <;> cases h1
    | outgrown => cases ex <;> cases h1
  | cond y c d ihc ihd =>
    intro hok s k φ K a w e ok
    simp only [codeOK, Bool.and_eq_true] at hok
    have e' : (match ev s.t y with
      | some (.bool x) => cond x (goC P cl pure call0 call fuel c s k) (goC P cl pure call0 call fuel d s k)
      | _ => none) = some x := e
    split at e'
    · rename_i t ht
      have dt := ev_den ok.fd ht
      generalize hcy : a.eval y = cy at dt
      cases dt
      cases t with
      | true => exact wp_cond_true hcy (ihc hok.1 s k φ K a w e' ok)
      | false => exact wp_cond_false hcy (ihd hok.2 s k φ K a w e' ok)
    · cases e'
  | block id c ih =>
    intro hok s k φ K a w e ok
    refine wp_block ?_
    have e' : goC P cl pure call0 call fuel c s (fun e s' => match e with
      | .exit i => cond (Nat.beq i id) (k .normal s') (k (.exit i) s')
      | .normal => k .normal s'
      | .ret => k .ret s') = some x := e
    refine Code.wp_mono (fun e a' w' h => ?_) (ih hok s _ φ K a w e' ok)
    obtain ⟨ex, s', φ', K', h1, h2, h3, h4, h5, h6, h7, h8⟩ := h
    cases e with
    | normal =>
      cases ex with
      | normal => exact ⟨.normal, s', φ', K', trivial, h2, h3, h4, h5, h6, h7, h8⟩
      | ret => cases h1
      | exit i => cases h1
    | ret =>
      cases ex with
      | ret => exact ⟨.ret, s', φ', K', h1, h2, h3, h4, h5, h6, h7, h8⟩
      | normal => cases h1
      | exit i => cases h1
    | exit i =>
      cases ex with
      | exit j =>
        have h1 : i = j := h1
        subst h1
        simp only [Exit.inBlock]
        by_cases hid : i = id
        · subst hid
          rw [if_pos rfl]
          simp only [Nat.beq_refl, cond_true] at h2
          exact ⟨.normal, s', φ', K', trivial, h2, h3, h4, h5, h6, h7, h8⟩
        · rw [if_neg hid]
          have : Nat.beq i id = false := by
            cases hb : Nat.beq i id with
            | false => rfl
            | true => exact absurd (Nat.eq_of_beq_eq_true hb) hid
          simp only [this, cond_false] at h2
          exact ⟨.exit i, s', φ', K', rfl, h2, h3, h4, h5, h6, h7, h8⟩
      | normal => cases h1
      | ret => cases h1
    | goto l => cases ex <;> cases h1
    | panic c => cases ex <;> cases h1
    | outgrown => cases ex <;> cases h1
  | loop c ih =>
    intro hok s k φ K a w e ok
    exact wp_loop_rounds fuel (loopC_sound (fun s k φ K a w e ok => ih hok s k φ K a w e ok) fuel s k φ K a w e ok)
end
end Go.Proofs.Ytdhlbfhfenomcaa.Ab
