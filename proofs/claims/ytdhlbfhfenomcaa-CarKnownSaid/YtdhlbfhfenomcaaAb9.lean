/- All operations together; a region that does not draw. -/
import Derived.Test.YtdhlbfhfenomcaaAb8
namespace Go.Proofs.Ytdhlbfhfenomcaa.Ab
open Go Go.RowKit
set_option linter.unusedVariables false
set_option linter.unusedSimpArgs false

section ops
variable {P : Program} {B : Nat} {φ : Ph} {K : Ks} {h : List Blk} {w : World} {slot : Nat} {ρ : Operand → Option AV} {ρc : Operand → Value} {o : Oper} {r : Res}
theorem aop_sound (hr : Rel B φ K h w) (hs : slot ≤ h.length) (hφ : φ slot = none) (hρ : ∀ x v, ρ x = some v → Den K φ v (ρc x)) (e : aop P ρ (fun b => h[b]?) slot o = some (true, r)) : Sim B φ K h w slot ((execOp ρc o).run P w) r := by
  cases hop : o.op with
  | move x => exact sim_move (.inl hop) hr hρ e
  | assign x => exact sim_move (.inr hop) hr hρ e
  | pick c x y => exact sim_pick hop hr hρ e
  | alloc t => exact sim_alloc hop hr hs hφ e
  | box t x => exact sim_box hop hr hs hφ hρ e
  | build t ps => exact sim_build hop hr hρ e
  | buildSlice t n ps => exact sim_buildSlice hop hr hs hφ hρ e
  | insert t m k x => exact sim_insert hop hr hρ e
  | mapUpdate t m k x => exact sim_mapUpdate hop hr hρ e
  | load t x => exact sim_load hop hr hρ e
  | store t x y => exact sim_store hop hr hρ e
  | nilCheck x => exact sim_nilCheck hop hr hρ e
  | binOp op t x y u => exact sim_binOp hop hr hρ e
  | unOp op t x => exact sim_unOp hop hr hρ e
  | convert s t x => exact sim_convert hop hr hρ e
  | makeInterface t x => exact sim_makeInterface hop hr hρ e
  | makeFunc f a b => exact sim_makeFunc hop hr hρ e
  | makeMap t m =>
    cases m with
    | none => exact sim_makeMap hop hr hs hφ e
    | some m => simp [aop, hop] at e
  | slice t x lo hi mx =>
    cases mx with
    | none => exact sim_slice hop hr hρ e
    | some m => simp [aop, hop] at e
  | fieldAddr t x i => exact sim_fieldAddr hop hr hρ e
  | field t x i => exact sim_field hop hr hρ e
  | indexAddr t x i => exact sim_indexAddr hop hr hρ e
  | index t x i => exact sim_index hop hr hρ e
  | typeAssert x xt t ok => exact sim_typeAssert hop hr hρ e
  | extract x i => exact sim_extract hop hr hρ e
  | call c =>
    cases hc : c.callee with
    | value f => simp [aop, hop, hc] at e
    | invoke a b => simp [aop, hop, hc] at e
    | builtin b =>
      cases b with
      | len => exact sim_builtin_small hop (.inl hc) hr hρ e
      | max => exact sim_builtin_small hop (.inr (.inl hc)) hr hρ e
      | min => exact sim_builtin_small hop (.inr (.inr hc)) hr hρ e
      | append => exact sim_append hop hc hr hs hφ hρ e
      | _ => simp [aop, hop, hc] at e
  | _ => simp [aop, hop] at e
end ops

/-- What is deferred. -/
def DefOK (K : Ks) (φ : Ph) (d : List (FuncId × List AV)) (ds : List Deferred) : Prop :=
  d.length = ds.length ∧ ∀ (i : Nat) (x : FuncId × List AV) (y : Deferred), d[i]? = some x → ds[i]? = some y → ∃ cap : Array Value, y.target = .fn (.func x.1) cap ∧ DenL K φ x.2 (y.args ++ cap).toList
theorem DefOK.mono {K K' : Ks} {φ φ' : Ph} {d : List (FuncId × List AV)} {ds : List Deferred} (h : DefOK K φ d ds) (e : Ext φ K φ' K') : DefOK K' φ' d ds :=
  ⟨h.1, fun i x y hx hy => let ⟨cap, h1, h2⟩ := h.2 i x y hx hy; ⟨cap, h1, h2.mono e⟩⟩
structure StOK (B : Nat) (φ : Ph) (K : Ks) (s : St) (a : Act) (w : World) : Prop where
  rel : Rel B φ K s.h w
  fd : FD K φ s.t a.tmps
  df : DefOK K φ s.d a.defers
/-- Blocks keep their places. -/
def Keep (n : Nat) (φ φ' : Ph) : Prop := ∀ i, i < n → φ' i = φ i
theorem Keep.refl (n : Nat) (φ : Ph) : Keep n φ φ := fun _ _ => rfl
theorem Keep.trans {n m : Nat} {φ φ' φ'' : Ph} (h : Keep n φ φ') (hn : n ≤ m) (k : Keep m φ' φ'') : Keep n φ φ'' := fun i hi => (k i (Nat.lt_of_lt_of_le hi hn)).trans (h i hi)
/-- What a call comes to. -/
def Exits {R : Type} (B : Nat) (φ : Ph) (K : Ks) (w : World) (n : Nat) (k : AV → List Blk → Option R) (x : R) (e : Ending) (w' : World) : Prop :=
  ∃ v h' φ' K' cv, e = .returned cv ∧ k v h' = some x ∧ Ext φ K φ' K' ∧ KN B K K' ∧ Rel B φ' K' h' w' ∧ Below B w w' ∧ Den K' φ' v cv ∧ n ≤ h'.length ∧ Keep n φ φ'
/-- What is known of calls. -/
def CallOK {R : Type} (P : Program) (call : CallC R) : Prop :=
  ∀ (f : FuncId) (as : List AV) (h : List Blk) (k : AV → List Blk → Option R) (x : R), call f as h k = some x → ∀ (B : Nat) (φ : Ph) (K : Ks) (w : World) (cas : Array Value), Rel B φ K h w → DenL K φ as cas.toList →
    (∃ fn, P.funcs[f]? = some fn ∧ fn.body.isSome = true ∧ fn.name ≠ "runtime.NumGoroutine") ∧ Calls P f cas w (Exits B φ K w h.length k x)
theorem hset_le (h : List Blk) : ∀ (b : Nat) (x : Blk), h.length ≤ (hset h b x).length := by
  induction h with
  | nil => intro b x; cases b <;> simp [hset]
  | cons a l ih =>
    intro b x
    cases b with
    | zero => simp [hset]
    | succ b => simp only [hset, List.length_cons]; have := ih b x; omega
theorem applyWr_le : ∀ (l : List (Nat × Blk)) (h : List Blk), h.length ≤ (applyWr h l).length
  | [], h => Nat.le_refl _
  | (b, x) :: l, h => Nat.le_trans (hset_le h b x) (applyWr_le l _)

theorem putK_eq {R : Type} (t : BT) (d : Option Tmp) (v : AV) (k : BT → Option R) : putK t d v k = k (putT t d v) := by
  cases d with
  | none => rfl
  | some d => exact BT.setK_eq t d v k
theorem forceA_eq {R : Type} (cl : Bool) (v : AV) (q : AV → Option R) : forceA cl v q = q v := by
  cases cl with
  | false => rfl
  | true =>
    cases v <;> first | rfl | skip
    · rename_i k n
      cases n with
      | ofNat n => cases n <;> rfl
      | negSucc n => cases n <;> rfl
    · rename_i b; cases b <;> rfl
theorem forceL_eq {R : Type} (l : List AV) : ∀ k : List AV → Option R, forceL l k = k l := by
  induction l with
  | nil => intro k; rfl
  | cons a l ih => intro k; exact ih _
theorem forceH_eq {R : Type} (l : List Blk) : ∀ k : List Blk → Option R, forceH l k = k l := by
  induction l with
  | nil => intro k; rfl
  | cons a l ih =>
    intro k
    show forceBk a (fun b => forceH l fun l' => k (b :: l')) = _
    have : ∀ q : Blk → Option R, forceBk a q = q a := by
      intro q
      cases a <;> first | rfl | exact forceL_eq _ _
    rw [this, ih]

theorem wantC_sound {R : Type} {K : Ks} {φ : Ph} {ops : Array Oper} {t : BT} {o : Oper} {k : BT → Bool → Option R} {x : R} {a : Act} (e : wantC ops t o k = some x) (hf : FD K φ t a.tmps) :
    ∃ t', FD K φ t' a.tmps ∧ k t' (Region.wanted o (yielded ops a.tmps)) = some x := by
  unfold wantC at e
  unfold Region.wanted
  split at e
  · rename_i hg; rw [hg]; exact ⟨t, hf, e⟩
  · rename_i j want hg
    rw [hg]
    simp only
    unfold yielded
    split at e
    · rename_i hd; rw [hd]; exact ⟨t, hf, by simpa using e⟩
    · rename_i d hd
      rw [hd]
      simp only [Option.bind_some]
      split at e
      · rename_i b hb
        obtain ⟨cv, h1, h2⟩ := hf d _ hb
        cases h2
        rw [h1]
        have hput : FD K φ (t.set d (.bool b)) a.tmps := by
          have := hf.put d (.bool φ b)
          have e2 : a.tmps.setIfInBounds d (.bool b) = a.tmps := by
            apply Array.ext_getElem?
            intro i
            rw [Array.getElem?_setIfInBounds]
            split
            · rename_i e3; subst e3
              have hlt : d < a.tmps.size := by rcases Nat.lt_or_ge d a.tmps.size with h' | h'; exact h'; simp [h'] at h1
              rw [if_pos hlt, h1]
            · rfl
          rwa [e2] at this
        cases b with
        | true => refine ⟨_, hput, ?_⟩; simp only [cond_true, BT.setK_eq] at e; cases want <;> simpa using e
        | false => refine ⟨_, hput, ?_⟩; simp only [cond_false, BT.setK_eq] at e; cases want <;> simpa using e
      · rename_i v hv hnb
        obtain ⟨cv, h1, h2⟩ := hf d _ hnb
        rw [h1]
        refine ⟨t, hf, ?_⟩
        have : ∀ b, cv ≠ .bool b := fun b e' => by
          subst e'
          cases h2 with
          | bool => exact hv _ rfl
          | osl _ _ _ _ _ h _ => cases h
        cases cv <;> first | (simpa using e) | (rename_i b; exact absurd rfl (this b))
      · cases e
end Go.Proofs.Ytdhlbfhfenomcaa.Ab
