/- A region that draws its order: the abstract run follows every order. -/
import Derived.Test.YtdhlbfhfenomcaaAb14
namespace Go.Proofs.Ytdhlbfhfenomcaa.Ab
open Go Go.RowKit
set_option linter.unusedVariables false
set_option linter.unusedSimpArgs false

theorem Grow.ext {w w' : World} (h : w'.heap = w.heap) (h1 : w'.os = w.os) (h2 : w'.tape = w.tape) (h3 : w'.output = w.output) : Grow w w' :=
  ⟨by rw [h]; exact Nat.le_refl _, fun k _ => by rw [h], h1, h2, h3⟩
/-- Slots laid ahead. -/
theorem Rel.pad {B : Nat} {φ : Ph} {K : Ks} {h : List Blk} {w : World} (r : Rel B φ K h w) (n : Nat) : Rel B φ K (h ++ List.replicate n .dead) w := by
  have key : ∀ (i : Nat) (b : Blk), (h ++ List.replicate n .dead)[i]? = some b → b.live = true → h[i]? = some b := fun i b hb hl => by
    rcases Nat.lt_or_ge i h.length with hi | hi
    · rw [List.getElem?_append_left hi] at hb; exact hb
    · rw [List.getElem?_append_right hi, List.getElem?_replicate] at hb
      split at hb
      · cases hb; cases hl
      · cases hb
  refine ⟨r.base, fun i hi => r.fresh i (by simp at hi; omega), fun i b g hb hg => ?_, fun i b hb hno hl => r.there i b (key i b hb hl) hno hl, fun i b g hb hl hg => r.own i b g (key i b hb hl) hl hg,
    fun i j b c g k hb hc hl hl' hg hk e => r.inj i j b c g k (key i b hb hl) (key j c hc hl') hl hl' hg hk e, r.one, fun cb o v hv => ⟨(r.stab cb o v hv).1, fun i b g hb hl hg e => (r.stab cb o v hv).2 i b g (key i b hb hl) hl hg e⟩⟩
  cases hl : b.live with
  | false => cases b <;> first | trivial | simp [Blk.live] at hl
  | true => exact r.blk i b g (key i b hb hl) hg
/-- What a pure call sees. -/
theorem Rel.alone {B : Nat} {φ : Ph} {K : Ks} {h : List Blk} {w : World} (r : Rel B φ K h w) : Rel w.heap.size (fun _ => none) K [] w :=
  ⟨Nat.le_refl _, fun _ _ => rfl, fun i b g hb => by (cases hb), fun i b hb => by (cases hb), fun i b g hb => by (cases hb), fun i j b c g k hb => by (cases hb), r.one, fun cb o v hv => ⟨(r.stab cb o v hv).1, fun i b g hb => by (cases hb)⟩⟩
/-- What is left behind a pure call. -/
theorem Rel.after {B : Nat} {φ φ' : Ph} {K K' : Ks} {h h' : List Blk} {w w' : World} (r : Rel B φ K h w) (hb : Below w.heap.size w w') (hK : ∀ b o v, K b o = some v → K' b o = some v) (hn : KN w.heap.size K K') (r' : Rel w.heap.size φ' K' h' w') : Rel B φ K' h w' := by
  refine (r.grow (Grow.below hb)).more hK fun cb o v hv => ?_
  rcases hn cb o v hv with h1 | h1
  · exact .inl h1
  · refine .inr ⟨r'.one cb o v hv, (r'.stab cb o v hv).1, fun i b g hb hl hg e => ?_⟩
    have := (r.own i b g hb hl hg).2
    omega
theorem KN.low {B C : Nat} {K K' : Ks} (h : KN C K K') (hB : B ≤ C) : KN B K K' := fun cb o v hv => (h cb o v hv).imp id (Nat.le_trans hB)
theorem Below.low {B C : Nat} {w w' : World} (h : Below C w w') (hB : B ≤ C) : Below B w w' := ⟨h.os, h.tape, h.output, h.size, fun k hk => h.block k (Nat.lt_of_lt_of_le hk hB)⟩

/-- All cells as they stand. -/
def KW (w : World) : Ks := fun cb o => match w.cell? ⟨cb, o, none⟩ with
  | some v => if v.oneCell' = true then some v else none
  | none => none
theorem KW_iff {w : World} {cb o : Nat} {v : Value} : KW w cb o = some v ↔ w.cell? ⟨cb, o, none⟩ = some v ∧ v.oneCell' = true := by
  unfold KW
  constructor
  · intro h
    split at h
    · rename_i u hu
      split at h
      · rename_i h1; cases h; exact ⟨hu, h1⟩
      · cases h
    · cases h
  · rintro ⟨h1, h2⟩
    rw [h1]; simp only; rw [if_pos h2]
theorem Rel.whole (w : World) : Rel w.heap.size (fun _ => none) (KW w) [] w :=
  ⟨Nat.le_refl _, fun _ _ => rfl, fun i b g hb => by (cases hb), fun i b hb => by (cases hb), fun i b g hb => by (cases hb), fun i j b c g k hb => by (cases hb), fun cb o v hv => (KW_iff.1 hv).2, fun cb o v hv => ⟨(KW_iff.1 hv).1, fun i b g hb => by (cases hb)⟩⟩
theorem Rel.toWhole {B : Nat} {φ : Ph} {K : Ks} {h : List Blk} {w : World} (r : Rel B φ K h w) : Ext φ K φ (KW w) := ⟨fun _ _ h => h, fun b o v hv => KW_iff.2 ⟨(r.stab b o v hv).1, r.one b o v hv⟩⟩
theorem flatL_get {l : List AV} (h : AV.flatL l = true) : ∀ (i : Nat) (u : AV), l[i]? = some u → u.flatB = true := by
  induction l with
  | nil => intro i u hu; cases hu
  | cons a l ih =>
    simp only [AV.flatL, Bool.and_eq_true] at h
    intro i u hu
    cases i with
    | zero => cases hu; exact h.1
    | succ i => exact ih h.2 i u (by simpa using hu)
theorem Den.flat {K : Ks} {φ : Ph} {v : AV} {cv : Value} (h : Den K φ v cv) : v.flatB = true → ∀ (K' : Ks) (φ' : Ph), Den K' φ' v cv := by
  induction h with
  | int => intro _ K' φ'; exact .int ..
  | bool => intro _ K' φ'; exact .bool ..
  | str => intro _ K' φ'; exact .str ..
  | nilp => intro _ K' φ'; exact .nilp ..
  | nils => intro _ K' φ'; exact .nils ..
  | nilf => intro _ K' φ'; exact .nilf ..
  | nili => intro _ K' φ'; exact .nili ..
  | nilm => intro _ K' φ'; exact .nilm ..
  | agg _ l cs h1 _ ih => intro hp K' φ'; simp only [AV.flatB] at hp; exact .agg _ l cs h1 (fun i u v hu hv => ih i u v hu hv (flatL_get hp i u hu) K' φ')
  | tup _ l cs h1 _ ih => intro hp K' φ'; simp only [AV.flatB] at hp; exact .tup _ l cs h1 (fun i u v hu hv => ih i u v hu hv (flatL_get hp i u hu) K' φ')
  | _ => intro hp; simp [AV.flatB] at hp
theorem frz_den {B base : Nat} {φ : Ph} {K : Ks} {h : List Blk} {w : World} {v : AV} {cv : Value} (r : Rel B φ K h w) (hd : Den K φ v cv) : Den (KW w) φ (frz base h v) cv := by
  have hk := hd.mono r.toWhole
  unfold frz
  split
  · rename_i b off
    split
    · rename_i l hb hl
      cases hc : (oneL l && AV.pureL (AV.stripL l)) with
      | false => exact hk
      | true =>
        simp only [Bool.and_eq_true] at hc
        simp only [cond_true]
        cases hd with
        | ptr _ _ _ g hg =>
          obtain ⟨cvs, t, hbk, hdl⟩ := r.blk b _ g hl hg
          have h1 := hdl.one hc.1
          have hp := (hdl.strip.pure hc.2 (fun _ => none)).mono (φ' := fun _ => none) (K' := KW w) ⟨fun _ _ h => h, r.toWhole.ks⟩
          have hlen : (AV.stripL l).length = cvs.size := by simpa using hp.1
          have e : (⟨g.cb, off, none⟩ : Addr) = ⟨g.cb, 0 + 0 * (AV.stripL l).length + off, none⟩ := by congr 1; omega
          have hget : ∀ (q : Nat) (u : AV), (AV.stripL l)[q]? = some u → cvs[q]? = some (cvs.getD q undef) := fun q u hu => by
            have hq : q < (AV.stripL l).length := by rcases Nat.lt_or_ge q (AV.stripL l).length with h' | h'; exact h'; simp [List.getElem?_eq_none h'] at hu
            have hq2 : q < cvs.size := by omega
            simp [hq2]
          rw [e]
          refine .rop _ 1 _ 0 off g.cb 0 (AV.stripL l).length (fun _ q => cvs.getD q undef) (by omega) (fun _ _ => rfl) (fun j q u hj hu => ?_) (fun j q u hj hu => ?_)
          · have hj0 : j = 0 := by omega
            subst hj0
            have hu' : (AV.stripL l)[q]? = some u := hu
            have hx := hget q u hu'
            refine KW_iff.2 ⟨?_, h1 _ (Array.mem_toList_iff.2 (Array.mem_of_getElem? hx))⟩
            rw [cell_of_row w g.cb _ cvs t _ hbk]
            rw [show 0 + 0 * (AV.stripL l).length + q = q by omega]; exact hx
          · have hu' : (AV.stripL l)[q]? = some u := hu
            exact hp.2 q u _ hu' (by have := hget q u hu'; simpa using this)
    · exact hk
  · exact hk
theorem frzA_den {B base : Nat} {φ : Ph} {K : Ks} {h : List Blk} {w : World} {v : AV} {cv : Value} (r : Rel B φ K h w) (hd : Den K φ v cv) : Den (KW w) φ (frzA base h v) cv := by
  unfold frzA
  split
  · rename_i f0 a b
    cases hd with
    | fn _ _ _ _ ca cb h1 h2 h3 h4 =>
      refine .fn _ _ _ _ ca cb (by simpa using h1) (fun i u v hu hv => ?_) (by simpa using h3) (fun i u v hu hv => ?_)
      · rw [List.getElem?_map] at hu
        cases hx : a[i]? with
        | none => rw [hx] at hu; cases hu
        | some y => rw [hx] at hu; cases hu; exact frz_den r (h2 i y v hx hv)
      · rw [List.getElem?_map] at hu
        cases hx : b[i]? with
        | none => rw [hx] at hu; cases hu
        | some y => rw [hx] at hu; cases hu; exact frz_den r (h4 i y v hx hv)
  · exact frz_den r hd
theorem frzL_den {B base : Nat} {φ : Ph} {K : Ks} {h : List Blk} {w : World} {l : List AV} {cs : List Value} (r : Rel B φ K h w) (hd : DenL K φ l cs) : DenL (KW w) φ (l.map (frzA base h)) cs :=
  ⟨by simpa using hd.1, fun i u v hu hv => by
    rw [List.getElem?_map] at hu
    cases hx : l[i]? with
    | none => rw [hx] at hu; cases hu
    | some y => rw [hx] at hu; cases hu; exact frzA_den r (hd.2 i y v hx hv)⟩

section
variable {P : Program} {call0 : CallC (AV × List Blk)}
/-- A pure call. -/
def call1 {R : Type} (call0 : CallC (AV × List Blk)) : CallC R := fun f as h k =>
  if AV.pureL (AV.stripL as) then match call0 f (AV.stripL as) [] (fun v h => some (v, h)) with
    | some (v, _) => if v.strip.pureB then k v.strip h else none
    | none => none
  else none
def call2 {R : Type} (call0 : CallC (AV × List Blk)) : CallC R := fun f as h k =>
  match call0 f as h (fun v h => some (v, h)) with
    | some (v, h') => k v h'
    | none => none
def call3 {R : Type} (call0 : CallC (AV × List Blk)) (base : Nat) : CallC R := fun f as h k =>
  if AV.pureL ((AV.stripL as).map (frzA base h)) then match call0 f ((AV.stripL as).map (frzA base h)) [] (fun v h => some (v, h)) with
    | some (v, _) => if v.flatB then k v h else none
    | none => none
  else none
theorem call1_ok {R : Type} (h0 : CallOK P call0) : CallOK P (call1 (R := R) call0) := by
  intro f as h k x e B φ K w cas hr hd
  unfold call1 at e
  split at e
  · rename_i hp
    split at e
    · rename_i v hh hv
      split at e
      · rename_i hvp
        obtain ⟨h1, h2⟩ := h0 f _ [] _ _ hv w.heap.size (fun _ => none) K w cas hr.alone (hd.strip.pure hp _)
        refine ⟨h1, h2.mono fun en w' hx => ?_⟩
        obtain ⟨v1, h', φ', K', cv, rfl, g1, g2, g3, g4, g5, g6, _⟩ := hx
        cases g1
        exact ⟨v.strip, h, φ, K', cv, rfl, e, ⟨fun _ _ h => h, g2.ks⟩, g3.low hr.base, hr.after g5 g2.ks g3 g4, Below.low g5 hr.base, g6.stripped.pure hvp _, Nat.le_refl _, Keep.refl _ _⟩
      · cases e
    · cases e
  · cases e
theorem call2_ok {R : Type} (h0 : CallOK P call0) : CallOK P (call2 (R := R) call0) := by
  intro f as h k x e B φ K w cas hr hd
  unfold call2 at e
  split at e
  · rename_i v hh hv
    obtain ⟨h1, h2⟩ := h0 f _ h _ _ hv B φ K w cas hr hd
    refine ⟨h1, h2.mono fun en w' hx => ?_⟩
    obtain ⟨v1, h', φ', K', cv, rfl, g1, g2⟩ := hx
    cases g1
    exact ⟨v, hh, φ', K', cv, rfl, e, g2⟩
  · cases e
theorem call3_ok {R : Type} (base : Nat) (h0 : CallOK P call0) : CallOK P (call3 (R := R) call0 base) := by
  intro f as h k x e B φ K w cas hr hd
  unfold call3 at e
  split at e
  · rename_i hp
    split at e
    · rename_i v hh hv
      split at e
      · rename_i hvp
        obtain ⟨h1, h2⟩ := h0 f _ [] _ _ hv w.heap.size (fun _ => none) (KW w) w cas (Rel.whole w) ((frzL_den hr hd.strip).pure hp _)
        refine ⟨h1, h2.mono fun en w' hx => ?_⟩
        obtain ⟨v1, h', φ', K', cv, rfl, g1, g2, g3, g4, g5, g6, _⟩ := hx
        cases g1
        exact ⟨v, h, φ, K, cv, rfl, e, Ext.refl _ _, KN.refl _ _, hr.grow (Grow.below g5), Below.low g5 hr.base, g6.flat hvp _ _, Nat.le_refl _, Keep.refl _ _⟩
      · cases e
    · cases e
  · cases e

variable {ops : Array Oper} {base : Nat}
theorem EffR.slot {slot slot' : Nat} {o : Oper} {T : FrF} {h : List Blk} {e : EE} (ha : allocs o = false) (x : EffR P call0 base slot o T h e) : EffR P call0 base slot' o T h e := by
  have hA : EffA P base slot o T h e → EffA P base slot' o T h e := fun ⟨r, h1, h2⟩ => ⟨r, by rw [aop_slot (s := slot) ha]; exact h1, h2⟩
  unfold EffR at x ⊢
  cases hop : o.op with
  | call c =>
    rw [hop] at x
    simp only at x ⊢
    cases hc : c.callee <;> rw [hc] at x <;> first | exact hA x | exact x
  | «defer» c => rw [hop] at x; exact x
  | lookup t m i ok => rw [hop] at x; exact x
  | _ => rw [hop] at x; exact hA x
theorem lookD_C {R : Type} {eq : AV → Option Bool} {k : Option AV → Option R} {r : Option AV} : ∀ {es : List (AV × AV)}, lookD eq es = some r → lookC eq es k = k r := by
  intro es
  induction es with
  | nil => intro e; cases e; rfl
  | cons en es ih =>
    intro e
    obtain ⟨b, a⟩ := en
    unfold lookD at e
    unfold lookC
    cases hb : eq b with
    | none => rw [hb] at e; cases e
    | some c =>
      rw [hb] at e
      cases c with
      | true => cases e; rfl
      | false => exact ih e
theorem EffR_opC {slot : Nat} {o : Oper} {t : BT} {h : List Blk} {e : EE} (h0 : CallOK P call0) (d : List (FuncId × List AV)) (x : EffR P call0 base slot o t.get h e) :
    ∃ (call : CallC (St × Res)) (t' : BT) (r : Res), CallOK P call ∧ opC P false call slot o ⟨t, h, d⟩ (fun s r => some (s, r)) = some (⟨t', applyWr h e.wr, d⟩, r) ∧ t'.get = putF t.get o.dst e.v := by
  have hplain : EffA P base slot o t.get h e → ∃ t' r, (match aop P (ev t) (fun b => h[b]?) slot o with
    | some (c, r) => cond c (forceA false r.v fun v => putK t o.dst v fun t => (fun s r => some (s, r) : St → Res → Option (St × Res)) ⟨t, applyWr h r.wr, d⟩ r) none
    | none => none) = some (⟨t', applyWr h e.wr, d⟩, r) ∧ t'.get = putF t.get o.dst e.v := by
    rintro ⟨r, h1, rfl, _⟩
    rw [ev_get, h1]
    exact ⟨putT t o.dst r.v, r, by simp only [cond_true, forceA_eq, putK_eq], putT_get _ _ _⟩
  have hpl : EffA P base slot o t.get h e → ∃ (call : CallC (St × Res)) (t' : BT) (r : Res), CallOK P call ∧ (match aop P (ev t) (fun b => h[b]?) slot o with
    | some (c, r) => cond c (forceA false r.v fun v => putK t o.dst v fun t => (fun s r => some (s, r) : St → Res → Option (St × Res)) ⟨t, applyWr h r.wr, d⟩ r) none
    | none => none) = some (⟨t', applyWr h e.wr, d⟩, r) ∧ t'.get = putF t.get o.dst e.v := fun hx => by
    obtain ⟨t', r, h1, h2⟩ := hplain hx
    exact ⟨_, t', r, call1_ok h0, h1, h2⟩
  unfold EffR at x
  unfold opC
  cases hop : o.op with
  | call c =>
    rw [hop] at x
    simp only at x ⊢
    have hcal : EffC call0 base (isTmp o) c t.get h e → ∃ (call : CallC (St × Res)) (t' : BT) (r : Res), CallOK P call ∧ (match callee t c with
        | some (f, as) => call f as h fun v h => putK t o.dst v fun t => (some (⟨t, h, d⟩, ⟨v, [], []⟩) : Option (St × Res))
        | none => none) = some (⟨t', applyWr h e.wr, d⟩, r) ∧ t'.get = putF t.get o.dst e.v := by
      rintro ⟨f, as, v0, hh, h1, h2 | h2 | h2⟩
      · obtain ⟨h2, h3, h4, rfl⟩ := h2
        rw [callee_get, h1]
        refine ⟨call1 call0, putT t o.dst v0.strip, ⟨v0.strip, [], []⟩, call1_ok h0, ?_, putT_get _ _ _⟩
        unfold call1
        simp only [h2, if_true, h3, h4, putK_eq]
        rfl
      · obtain ⟨_, h3, h4, rfl⟩ := h2
        rw [callee_get, h1]
        refine ⟨call2 call0, putT t o.dst v0, ⟨v0, [], []⟩, call2_ok h0, ?_, putT_get _ _ _⟩
        unfold call2
        simp only [h3, putK_eq, applyWr_all h4]
      · obtain ⟨h2, h3, h4, rfl⟩ := h2
        rw [callee_get, h1]
        refine ⟨call3 call0 base, putT t o.dst v0, ⟨v0, [], []⟩, call3_ok base h0, ?_, putT_get _ _ _⟩
        unfold call3
        simp only [h2, if_true, h3, h4, putK_eq]
        rfl
    cases hc : c.callee with
    | builtin b => rw [hc] at x; exact hpl x
    | invoke y z => rw [hc] at x; exact hcal x
    | value g => rw [hc] at x; exact hcal x
  | «defer» c => rw [hop] at x; exact x.elim
  | lookup ty m i ok =>
    rw [hop] at x
    obtain ⟨b, key, kt, et, es, z, r, h1, h2, h3, h4, h5, h6, h7, h8, rfl⟩ := x
    simp only
    rw [ev_get, h1, h2, h3]
    simp only
    rw [h4, h6]
    simp only
    rw [if_pos h5, lookD_C h7]
    simp only [putK_eq]
    refine ⟨call1 call0, putT t o.dst (lookV ok z r), ⟨lookV ok z r, [b], []⟩, call1_ok h0, ?_, putT_get _ _ _⟩
    cases r <;> rfl
  | _ => rw [hop] at x; exact hpl x

theorem EffR_sound {B : Nat} {φ : Ph} {K : Ks} {w : World} {a : Act} {slot : Nat} {o : Oper} {s : St} {e : EE} (h0 : CallOK P call0) (ok : StOK B φ K s a w) (hs : slot ≤ s.h.length) (hφ : φ slot = none) (x : EffR P call0 base slot o s.t.get s.h e) (Q : Exit → Act → World → Prop) :
    o.wp P a w (fun a' w' => ∃ t' φ' K', t'.get = putF s.t.get o.dst e.v ∧ Ext φ K φ' K' ∧ KN B K K' ∧ StOK B φ' K' ⟨t', applyWr s.h e.wr, s.d⟩ a' w' ∧ Below B w w' ∧ ∀ i, i < s.h.length → i ≠ slot → φ' i = φ i) Q := by
  obtain ⟨call, t', r, hc, h1, h2⟩ := EffR_opC h0 s.d x
  refine Oper.wp_mono (fun a' w' h => ?_) (opC_sound hc h1 ok hs hφ Q)
  obtain ⟨s', r', φ', K', g1, g2, g3, g4, g5, g6, g7⟩ := h
  cases g1
  exact ⟨t', φ', K', h2, g2, g3, g4, g5, g7⟩

theorem any_sound {Q : Exit → Act → World → Prop} {B : Nat} {Tf : FrF} {hf : List Blk} {E : Nat → EE} (h0 : CallOK P call0) : ∀ (n : Nat) (listed : Array Bool) (s : St) (φ : Ph) (K : Ks) (a : Act) (w : World), AAny P call0 ops base E Tf hf n listed s.t.get s.h → base + (ops.toList.filter allocs).length ≤ s.h.length → StOK B φ K s a w →
    (∀ j oj, ops[j]? = some oj → allocs oj = true → listed.getD j true = false → φ (slotAt ops base j) = none) →
    (∀ (s' : St) (φ' : Ph) (K' : Ks) (a' : Act) (w' : World), s'.t.get = Tf → s'.h = hf → s'.d = s.d → Ext φ K φ' K' → KN B K K' → StOK B φ' K' s' a' w' → Below B w w' → base ≤ hf.length → Keep base φ φ' → Q .normal a' w') →
    wpAny P .any ops Q n listed a w := by
  intro n
  induction n with
  | zero =>
    intro listed s φ K a w x hL ok hn hQ
    obtain ⟨h1, h2, h3⟩ := x
    exact ⟨h1, hQ s φ K a w h2 h3 rfl (Ext.refl _ _) (KN.refl _ _) ok (Below.refl _ _) (by rw [← h3]; omega) (Keep.refl _ _)⟩
  | succ n ih =>
    intro listed s φ K a w x hL ok hn hQ
    refine ⟨fun hr => ?_, fun i hi => ?_⟩
    · obtain ⟨h2, h3⟩ := x.1 hr
      exact hQ s φ K a w h2 h3 rfl (Ext.refl _ _) (KN.refl _ _) ok (Below.refl _ _) (by rw [← h3]; omega) (Keep.refl _ _)
    · obtain ⟨sx, Hx⟩ := x.2 i hi
      obtain ⟨hun, o, ho, _⟩ := mem_ready.1 hi
      obtain ⟨wt, w1, w2, w3⟩ := sx o ho
      have hlen := applyWr_le (E i).wr s.h
      have hdst : dstAt ops i = o.dst := by unfold dstAt; rw [ho]; rfl
      rw [hdst] at Hx
      unfold wpOp
      simp only [ho]
      rw [wantF_sound w1 (show FDF K φ s.t.get a.tmps from ok.fd)]
      have step : ∀ (t' : BT) (φ' : Ph) (K' : Ks) (a' : Act) (w' : World), t'.get = putF s.t.get o.dst (E i).v → Ext φ K φ' K' → KN B K K' → StOK B φ' K' ⟨t', applyWr s.h (E i).wr, s.d⟩ a' w' → Below B w w' →
          (∀ j, (allocs o = true → j ≠ slotAt ops base i) → j < s.h.length → φ' j = φ j) → wpAny P .any ops Q n (listed.setIfInBounds i true) a' w' := by
        intro t' φ' K' a' w' g1 g2 g3 g4 g5 g6
        have hkb : Keep base φ φ' := fun j hj => g6 j (fun _ => by have := slotAt_base (ops := ops) (base := base) i; omega) (by omega)
        refine ih _ ⟨t', applyWr s.h (E i).wr, s.d⟩ φ' K' a' w' ?_ (Nat.le_trans hL hlen) g4 ?_ (fun s2 φ2 K2 a2 w2 k1 k2 k3 k4 k5 k6 k7 k8 k9 => hQ s2 φ2 K2 a2 w2 k1 k2 k3 (g2.trans k4) (g3.trans k5) k6 (g5.trans k7) k8 (hkb.trans (Nat.le_refl _) k9))
        · simp only [g1]; exact Hx
        · intro j oj hj haj hlj
          by_cases hij : i = j
          · subst hij
            have hlt : i < listed.size := by
              rcases Nat.lt_or_ge i listed.size with h' | h'
              · exact h'
              · simp [Array.getElem?_eq_none h'] at hun
            simp [hlt] at hlj
          · rw [getD_set_ne true hij] at hlj
            rw [g6 _ (fun hai => slotAt_ne (Ne.symm hij) hj ho haj hai) (Nat.lt_of_lt_of_le (slotAt_bound hj haj) hL)]
            exact hn j oj hj haj hlj
      cases wt with
      | true =>
        refine .inl ?_
        have hx := w2 rfl
        cases hal : allocs o with
        | true =>
          refine Oper.wp_mono (fun a' w' h => ?_) (EffR_sound h0 ok (Nat.le_of_lt (Nat.lt_of_lt_of_le (slotAt_bound ho hal) hL)) (hn i o ho hal hun) hx _)
          obtain ⟨t', φ', K', g1, g2, g3, g4, g5, g6⟩ := h
          exact step t' φ' K' a' w' g1 g2 g3 g4 g5 fun j hj hl => g6 j hl (hj hal)
        | false =>
          refine Oper.wp_mono (fun a' w' h => ?_) (EffR_sound (slot := s.h.length) h0 ok (Nat.le_refl _) (ok.rel.fresh _ (Nat.le_refl _)) (hx.slot hal) _)
          obtain ⟨t', φ', K', g1, g2, g3, g4, g5, g6⟩ := h
          exact step t' φ' K' a' w' g1 g2 g3 g4 g5 fun j _ hj => g6 j hj (by omega)
      | false =>
        have he := w3 rfl
        refine step (putT s.t o.dst (.tup [])) φ K _ w (by rw [he, putT_get]) (Ext.refl _ _) (KN.refl _ _) ⟨?_, ok.fd.putT _ (den_undef _ _), by rw [put_defers']; exact ok.df⟩ (Below.refl _ _) (fun _ _ _ => rfl)
        rw [he]; exact ok.rel

theorem draw_sound {R : Type} {cl : Bool} {pure : FuncId → Bool} {call : CallC R} (hm : P.follows .mixedOrders = true) (h0 : CallOK P call0) : DrawOK P cl pure call0 call := by
  intro id ops s k x B φ K a w hdr e ok
  have e' : drawC P cl (callD pure call0 s.h.length) ops s.h.length ops.toList s.h.length { s with h := s.h ++ List.replicate (ops.toList.filter allocs).length .dead } [] (fun s' fps => cond (pairsOK fps (pairs ops)) (forceH s'.h fun h => k .normal { s' with h := h }) none) = some x := e
  obtain ⟨es, s', fs, h1, h2, h3, h4, h5⟩ := draw_lex (base := s.h.length) ops.toList 0 _ _ _ (by simp) e'
  rw [List.nil_append] at h2
  cases hpk : pairsOK fs (pairs ops) with
  | false => rw [hpk] at h2; cases h2
  | true =>
  rw [hpk] at h2
  simp only [cond_true] at h2
  rw [forceH_eq] at h2
  have hE : ∀ i j, (i, j) ∈ pairs ops → ∀ oi oj, ops[i]? = some oi → ops[j]? = some oj → isCall oi = false → isCall oj = false → Disj (es.getD i ⟨.tup [], [], []⟩) (es.getD j ⟨.tup [], [], []⟩) := by
    have key : ∀ (l : List (Nat × Nat)), pairsOK fs l = true → ∀ i j, (i, j) ∈ l → disj (fs.getD i ([], [])) (fs.getD j ([], [])) = true := by
      intro l
      induction l with
      | nil => intro _ i j h; cases h
      | cons p l ih =>
        obtain ⟨a, b⟩ := p
        intro h i j hm
        simp only [pairsOK, Bool.and_eq_true] at h
        rcases List.mem_cons.1 hm with e | hm
        · cases e; exact h.1
        · exact ih h.2 i j hm
    intro i j hm oi oj hi hj ci cj
    have hk := key _ hpk i j hm
    have get : ∀ (q : Nat) (o : Oper), ops[q]? = some o → isCall o = false → fs.getD q ([], []) = fpOf (es.getD q ⟨.tup [], [], []⟩) := fun q o hq hc => by
      have hlt : q < es.length := by
        rw [h1]
        rcases Nat.lt_or_ge q ops.size with h' | h'
        · simpa using h'
        · simp [h'] at hq
      have g1 := h5.get q es[q] o (List.getElem?_eq_getElem hlt) (by simpa using hq) hc
      rw [List.getD_eq_getElem?_getD, g1, List.getD_eq_getElem?_getD, List.getElem?_eq_getElem hlt]; rfl
    rw [get i oi hi ci, get j oj hj cj] at hk
    exact disj_spec hk
  have hL : s.h.length + (ops.toList.filter allocs).length ≤ (s.h ++ List.replicate (ops.toList.filter allocs).length Blk.dead).length := by simp
  have hlex : Region.lexFrom .any ops ops.toList.length 0 (Array.replicate ops.size false) = true := by
    have := hdr
    unfold drOK at this
    simp only [Bool.and_eq_true] at this
    have h6 := this.1
    unfold Region.lexB at h6
    simp only [Bool.and_eq_true] at h6
    simpa using h6.2
  have hdn : Down ops (Array.replicate ops.size false) := fun j oj hj hl => by
    rw [Array.getD_eq_getD_getElem?, Array.getElem?_replicate] at hl
    split at hl <;> cases hl
  have hA := AAny_lex (base := s.h.length) hdr (fun j => es.getD j ⟨.tup [], [], []⟩) hE ops.toList 0 (Array.replicate ops.size false) _ _ es hL hdn (by simp) (fun j hj => by omega)
    (fun j => by
      rw [← h1]
      split
      · rename_i hj; rw [List.getElem?_eq_getElem hj]; simp [hj]
      · rename_i hj; exact List.getElem?_eq_none (by omega)) hlex h4
  refine wp_region_any hm ?_
  rw [Array.length_toList] at hA
  refine any_sound (B := B) h0 ops.size _ { s with h := s.h ++ List.replicate (ops.toList.filter allocs).length .dead } φ K a _ hA hL ⟨?_, ok.fd, ok.df⟩ ?_ ?_
  · exact (ok.rel.grow (Grow.drew w)).pad _
  · intro j oj hj haj _
    exact ok.rel.fresh _ (slotAt_base j)
  · intro s2 φ2 K2 a2 w2 g1 g2 g3 g4 g5 g6 g7 g8 g9
    refine ⟨.normal, s', φ2, K2, trivial, h2, g4, g5, ⟨by rw [← g2]; exact g6.rel, ?_, by have := g6.df; rw [g3] at this; rw [h3]; exact this⟩, ?_, g8, g9⟩
    · intro i v hv; rw [← g1] at hv; exact g6.fd i v hv
    · exact (Grow.drew w).toBelow ok.rel.base |>.trans g7
end
end Go.Proofs.Ytdhlbfhfenomcaa.Ab
