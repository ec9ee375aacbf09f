/- A region that draws its order, second part: every order comes to one end. -/
import Derived.Test.YtdhlbfhfenomcaaAb11
namespace Go.Proofs.Ytdhlbfhfenomcaa.Ab
open Go Go.RowKit
set_option linter.unusedVariables false
set_option linter.unusedSimpArgs false

/-- All blocks, from one on. -/
def wrFrom : Nat → List Blk → List (Nat × Blk)
  | _, [] => []
  | i, b :: l => (i, b) :: wrFrom (i + 1) l
theorem hset_at (p : List Blk) : ∀ (r : List Blk) (b : Blk), hset (p ++ r) p.length b = p ++ b :: r.tail := by
  induction p with
  | nil => intro r b; cases r <;> rfl
  | cons a p ih => intro r b; simp only [List.cons_append, List.length_cons, hset, ih]
theorem applyWr_from : ∀ (l p r : List Blk), r.length ≤ l.length → applyWr (p ++ r) (wrFrom p.length l) = p ++ l := by
  intro l
  induction l with
  | nil => intro p r hr; have : r = [] := by simpa using hr
           subst this; simp [wrFrom, applyWr]
  | cons b l ih =>
    intro p r hr
    simp only [wrFrom, applyWr, hset_at]
    have := ih (p ++ [b]) r.tail (by simp at hr ⊢; omega)
    simp only [List.append_assoc, List.singleton_append, List.length_append, List.length_cons, List.length_nil] at this
    simpa using this
theorem applyWr_all {h l : List Blk} (hl : h.length ≤ l.length) : applyWr h (wrFrom 0 l) = l := by simpa using applyWr_from l [] h hl

structure EE where
  v : AV
  wr : List (Nat × Blk)
  rd : List Nat
def slotAt (ops : Array Oper) (base i : Nat) : Nat := base + ((ops.toList.take i).filter allocs).length
def lookV (ok : Bool) (z : AV) : Option AV → AV
  | some a => cond ok (.tup [a, .bool true]) a
  | none => cond ok (.tup [z, .bool false]) z
section
variable (P : Program) (pure : FuncId → Bool) (call0 : CallC (AV × List Blk)) (ops : Array Oper) (base : Nat)
def EffA (slot : Nat) (o : Oper) (T : FrF) (h : List Blk) (e : EE) : Prop :=
  ∃ r, aop P (evF T) (fun b => h[b]?) slot o = some (true, r) ∧ e = ⟨r.v, r.wr, r.rd⟩ ∧ (writes o = true ∨ ∀ b ∈ r.rd, b < base) ∧ (touches o = true ∨ r.rd = [])
def EffC (imp : Bool) (c : Call) (T : FrF) (h : List Blk) (e : EE) : Prop :=
  ∃ f as v0 hh, calleeF T c = some (f, as) ∧
    ((AV.pureL (AV.stripL as) = true ∧ call0 f (AV.stripL as) [] (fun v h => some (v, h)) = some (v0, hh) ∧ v0.strip.pureB = true ∧ e = ⟨v0.strip, [], []⟩) ∨
     (imp = true ∧ call0 f as h (fun v h => some (v, h)) = some (v0, hh) ∧ h.length ≤ hh.length ∧ e = ⟨v0, wrFrom 0 hh, []⟩) ∨
     (AV.pureL ((AV.stripL as).map (frzA base h)) = true ∧ call0 f ((AV.stripL as).map (frzA base h)) [] (fun v h => some (v, h)) = some (v0, hh) ∧ v0.flatB = true ∧ e = ⟨v0, [], []⟩))
def EffL (t : TypeId) (m i : Operand) (ok : Bool) (T : FrF) (h : List Blk) (e : EE) : Prop :=
  ∃ b key kt et es z r, evF T m = some (.map b) ∧ evF T i = some key ∧ P.underlying t = some (.map kt et) ∧ h[b]? = some (.map es) ∧ keyV P kt key = true ∧ zeroT P et = some z ∧ lookD (keyEq P kt key) es = some r ∧ b < base ∧ e = ⟨lookV ok z r, [], [b]⟩
def EffR (slot : Nat) (o : Oper) (T : FrF) (h : List Blk) (e : EE) : Prop :=
  match o.op with
  | .call c => match c.callee with
    | .builtin _ => EffA P base slot o T h e
    | _ => EffC call0 base (isTmp o) c T h e
  | .defer _ => False
  | .lookup t m i ok => EffL P base t m i ok T h e
  | _ => EffA P base slot o T h e
def StepOK (i : Nat) (T : FrF) (h : List Blk) (e : EE) : Prop :=
  ∀ o, ops[i]? = some o → ∃ w, wantF ops T o = some w ∧ (w = true → EffR P call0 base (slotAt ops base i) o T h e) ∧ (w = false → e = ⟨.tup [], [], []⟩)
def LexR : List Oper → Nat → FrF → List Blk → List EE → FrF → List Blk → Prop
  | [], _, T, h, [], Tf, hf => T = Tf ∧ h = hf
  | o :: l, i, T, h, e :: es, Tf, hf => StepOK P call0 ops base i T h e ∧ LexR l (i + 1) (putF T o.dst e.v) (applyWr h e.wr) es Tf hf
  | _, _, _, _, _, _, _ => False
end

section
variable {R : Type} {P : Program} {cl : Bool} {pure : FuncId → Bool} {call0 : CallC (AV × List Blk)} {ops : Array Oper} {base : Nat} {x : R}
theorem wantC_direct {t : BT} {o : Oper} {k : BT → Bool → Option R} (e : wantC ops t o k = some x) : ∃ t' w, t'.get = t.get ∧ wantF ops t.get o = some w ∧ k t' w = some x := by
  unfold wantC at e
  unfold wantF
  split at e
  · rename_i hg; rw [hg]; exact ⟨t, true, rfl, rfl, e⟩
  · rename_i j want hg
    rw [hg]
    simp only
    split at e
    · rename_i hd; rw [hd]; exact ⟨t, false, rfl, rfl, e⟩
    · rename_i d hd
      rw [hd]
      simp only
      split at e
      · rename_i b hb
        rw [hb]
        have hsame : (t.set d (.bool b)).get = t.get := by
          funext j
          rw [BT.get_set]
          split
          · rename_i e2; subst e2; rw [hb]; rfl
          · rfl
        cases b with
        | true => refine ⟨_, _, hsame, rfl, ?_⟩; simp only [cond_true, BT.setK_eq] at e; cases want <;> simpa using e
        | false => refine ⟨_, _, hsame, rfl, ?_⟩; simp only [cond_false, BT.setK_eq] at e; cases want <;> simpa using e
      · rename_i v hv hnb
        rw [hnb]
        refine ⟨t, false, rfl, ?_, e⟩
        cases v <;> first | rfl | exact absurd rfl (hv _)
      · cases e
theorem opC_direct {slot : Nat} {o : Oper} {s : St} {k : St → Res → Option R} (hd : drawable o = true) (e : opC P cl (callD pure call0 base (isTmp o)) slot o s k = some x) :
    ∃ t' r e, k { t := t', h := applyWr s.h e.wr, d := s.d } r = some x ∧ t'.get = putF s.t.get o.dst e.v ∧ ((writes o = true ∨ ∀ b ∈ r.rd, b < base) → (touches o = true ∨ r.rd = []) → EffR P call0 base slot o s.t.get s.h e) ∧ (isCall o = false → r.rd = e.rd ∧ r.wr = e.wr) := by
  have hplain : (match aop P (ev s.t) (fun b => s.h[b]?) slot o with
    | some (c, r) => cond c (forceA cl r.v fun v => putK s.t o.dst v fun t => k { s with t := t, h := applyWr s.h r.wr } r) none
    | none => none) = some x → ∃ t' r e, k { t := t', h := applyWr s.h e.wr, d := s.d } r = some x ∧ t'.get = putF s.t.get o.dst e.v ∧ ((writes o = true ∨ ∀ b ∈ r.rd, b < base) → (touches o = true ∨ r.rd = []) → EffA P base slot o s.t.get s.h e) ∧ (isCall o = false → r.rd = e.rd ∧ r.wr = e.wr) := by
    intro e
    split at e
    · rename_i c r hop
      cases c with
      | false => cases e
      | true =>
        simp only [cond_true, forceA_eq, putK_eq] at e
        rw [ev_get] at hop
        exact ⟨_, r, ⟨r.v, r.wr, r.rd⟩, e, putT_get _ _ _, fun h1 h2 => ⟨r, hop, rfl, h1, h2⟩, fun _ => ⟨rfl, rfl⟩⟩
    · cases e
  unfold opC at e
  unfold EffR
  cases hop : o.op with
  | call c =>
    rw [hop] at e
    simp only at e ⊢
    have hcal : isCall o = true → ∀ (e : (match callee s.t c with
        | some (f, as) => callD pure call0 base (isTmp o) f as s.h fun v h => putK s.t o.dst v fun t => k { s with t := t, h := h } ⟨v, [], []⟩
        | none => none) = some x), ∃ t' r e, k { t := t', h := applyWr s.h e.wr, d := s.d } r = some x ∧ t'.get = putF s.t.get o.dst e.v ∧ ((writes o = true ∨ ∀ b ∈ r.rd, b < base) → (touches o = true ∨ r.rd = []) → EffC call0 base (isTmp o) c s.t.get s.h e) ∧ (isCall o = false → r.rd = e.rd ∧ r.wr = e.wr) := by
      intro hcl e
      have hno : ∀ {p : Prop}, isCall o = false → p := fun h => by rw [hcl] at h; cases h
      split at e
      · rename_i f as hc
        rw [callee_get] at hc
        unfold callD at e
        split at e
        · rename_i hp
          simp only [Bool.and_eq_true] at hp
          split at e
          · rename_i v hh hv
            split at e
            · rename_i hvp
              simp only [putK_eq] at e
              exact ⟨_, _, ⟨v.strip, [], []⟩, e, putT_get _ _ _, fun _ _ => ⟨f, as, v, hh, hc, .inl ⟨hp.1, hv, hvp, rfl⟩⟩, hno⟩
            · cases e
          · cases e
        · split at e
          · rename_i himp
            split at e
            · rename_i v hh hv
              split at e
              · rename_i hle
                have hle := Nat.le_of_ble_eq_true hle
                simp only [putK_eq] at e
                refine ⟨_, ⟨v, [], []⟩, ⟨v, wrFrom 0 hh, []⟩, ?_, putT_get _ _ _, fun _ _ => ⟨f, as, v, hh, hc, .inr (.inl ⟨himp, hv, hle, rfl⟩)⟩, hno⟩
                simp only [applyWr_all hle]; exact e
              · cases e
            · cases e
          · split at e
            · rename_i hp
              split at e
              · rename_i v hh hv
                split at e
                · rename_i hvp
                  simp only [putK_eq] at e
                  exact ⟨_, _, ⟨v, [], []⟩, e, putT_get _ _ _, fun _ _ => ⟨f, as, v, hh, hc, .inr (.inr ⟨hp, hv, hvp, rfl⟩)⟩, hno⟩
                · cases e
              · cases e
            · cases e
      · cases e
    cases hc : c.callee with
    | builtin b => rw [hc] at e; exact hplain e
    | invoke y z => rw [hc] at e; exact hcal (by unfold isCall; rw [hop]; simp only; rw [hc]) e
    | value g => rw [hc] at e; exact hcal (by unfold isCall; rw [hop]; simp only; rw [hc]) e
  | «defer» c => unfold drawable at hd; rw [hop] at hd; cases hd
  | lookup t m i ok =>
    rw [hop] at e
    simp only at e ⊢
    split at e
    · rename_i b key kt et hm hi hu
      split at e
      · rename_i es z hb hz
        split at e
        · rename_i hkv
          obtain ⟨r, hr, hk⟩ := lookC_D e
          rw [putK_eq] at hk
          rw [ev_get] at hm hi
          have hw : writes o = false := by unfold writes isTmp writes0; rw [hop]; rfl
          refine ⟨_, _, ⟨lookV ok z r, [], [b]⟩, hk, ?_, fun h1 _ => ⟨b, key, kt, et, es, z, r, hm, hi, hu, hb, hkv, hz, hr, ?_, rfl⟩, fun _ => ⟨rfl, rfl⟩⟩
          · rw [putT_get]; cases r <;> rfl
          · rcases h1 with h1 | h1
            · rw [hw] at h1; cases h1
            · exact h1 b (by simp)
        · cases e
      · cases e
    · cases e
  | _ => rw [hop] at e; exact hplain e

/-- What is kept of an operation. -/
def fpOf (e : EE) : List Nat × List Nat := (e.rd, e.wr.map (·.1))
/-- What was noted of the operations fits. -/
def FpOK (ops : Array Oper) : Nat → List EE → List (List Nat × List Nat) → Prop
  | _, [], [] => True
  | i, e :: es, f :: fs => ((∀ o, ops[i]? = some o → isCall o = false → f = fpOf e)) ∧ FpOK ops (i + 1) es fs
  | _, _, _ => False
theorem FpOK.get {ops : Array Oper} : ∀ {es : List EE} {fs : List (List Nat × List Nat)} {i : Nat}, FpOK ops i es fs → ∀ (j : Nat) (e : EE) (o : Oper), es[j]? = some e → ops[i + j]? = some o → isCall o = false → fs[j]? = some (fpOf e) := by
  intro es
  induction es with
  | nil => intro fs i h j e o he; cases he
  | cons a es ih =>
    intro fs i h j e o he ho hc
    cases fs with
    | nil => exact h.elim
    | cons f fs =>
      cases j with
      | zero => cases he; rw [h.1 o ho hc]; rfl
      | succ j => exact ih h.2 j e o (by simpa using he) (by rw [← ho]; congr 1; omega) hc
theorem draw_lex : ∀ (l : List Oper) (i : Nat) (s : St) (fps : List (List Nat × List Nat)) (k : St → List (List Nat × List Nat) → Option R), (∀ j, l[j]? = ops[i + j]?) → drawC P cl (callD pure call0 base) ops base l (slotAt ops base i) s fps k = some x →
    ∃ (es : List EE) (s' : St) (fs : List (List Nat × List Nat)), es.length = l.length ∧ k s' (fps ++ fs) = some x ∧ s'.d = s.d ∧ LexR P call0 ops base l i s.t.get s.h es s'.t.get s'.h ∧ FpOK ops i es fs := by
  intro l
  induction l with
  | nil => intro i s fps k hl e; exact ⟨[], s, [], rfl, by rw [List.append_nil]; exact e, rfl, ⟨rfl, rfl⟩, trivial⟩
  | cons o l ih =>
    intro i s fps k hl e
    have ho : ops[i]? = some o := by simpa using (hl 0).symm
    have hl' : ∀ j, l[j]? = ops[i + 1 + j]? := fun j => by have := hl (j + 1); simpa [Nat.add_assoc, Nat.add_comm 1 j] using this
    have hslot : (if allocs o = true then slotAt ops base i + 1 else slotAt ops base i) = slotAt ops base (i + 1) := by
      unfold slotAt
      have : ops.toList.take (i + 1) = ops.toList.take i ++ [o] := by
        rw [List.take_add_one]; simp [ho]
      rw [this, List.filter_append]
      cases ha : allocs o <;> simp [ha]; omega
    unfold drawC at e
    split at e
    · rename_i hdr
      obtain ⟨t', w, ht', hw, e⟩ := wantC_direct e
      cases w with
      | true =>
        simp only [if_true] at e
        obtain ⟨t2, r, ee, hk, ht2, heff, hfp⟩ := opC_direct (base := base) hdr e
        simp only at hk
        split at hk
        · rename_i hc
          simp only [Bool.and_eq_true, Bool.or_eq_true, List.all_eq_true, List.isEmpty_iff] at hc
          rw [hslot] at hk
          obtain ⟨es, s', fs, h1, h2, h3, h4, h5⟩ := ih (i + 1) _ _ k hl' hk
          refine ⟨ee :: es, s', (r.rd, r.wr.map (·.1)) :: fs, by simp [h1], by simpa using h2, h3, ⟨fun o' ho' => ?_, ?_⟩, ⟨fun o' ho' hcl => ?_, h5⟩⟩
          · rw [ho] at ho'; cases ho'
            refine ⟨true, hw, fun _ => ?_, fun h => by cases h⟩
            have := heff (hc.1.imp id fun h b hb => Nat.lt_of_lt_of_le (Nat.lt_succ_self b) (Nat.le_of_ble_eq_true (h b hb))) hc.2
            rwa [ht'] at this
          · rw [ht2, ht'] at h4
            exact h4
          · rw [ho] at ho'; cases ho'
            obtain ⟨g1, g2⟩ := hfp hcl
            rw [g1, g2]; rfl
        · cases hk
      | false =>
        simp only [Bool.false_eq_true, if_false, putK_eq] at e
        rw [hslot] at e
        obtain ⟨es, s', fs, h1, h2, h3, h4, h5⟩ := ih (i + 1) _ _ k hl' e
        refine ⟨⟨.tup [], [], []⟩ :: es, s', ([], []) :: fs, by simp [h1], by simpa using h2, h3, ⟨fun o' ho' => ?_, ?_⟩, ⟨fun _ _ _ => rfl, h5⟩⟩
        · rw [ho] at ho'; cases ho'
          exact ⟨false, hw, fun h => (by cases h), fun _ => rfl⟩
        · rw [putT_get, ht'] at h4
          exact h4
    · cases e
end
end Go.Proofs.Ytdhlbfhfenomcaa.Ab
