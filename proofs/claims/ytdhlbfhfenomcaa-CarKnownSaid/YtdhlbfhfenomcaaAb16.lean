/- The theorem: what the abstract interpreter says of a call is so. -/
import Derived.Test.YtdhlbfhfenomcaaAb15
namespace Go.Proofs.Ytdhlbfhfenomcaa.Ab
open Go Go.RowKit
set_option linter.unusedVariables false
set_option linter.unusedSimpArgs false

theorem hset_end (h : List Blk) (x : Blk) : hset h h.length x = h ++ [x] := by
  induction h with
  | nil => rfl
  | cons a l ih => simp [hset, ih]
theorem args_get : ∀ (l : List AV) (i : Nat) (t : BT) (j : Nat) (v : AV), (BT.args l i t).get j = some v → (∃ m, j = i + m ∧ l[m]? = some v) ∨ (t.get j = some v ∧ (j < i ∨ i + l.length ≤ j)) := by
  intro l
  induction l with
  | nil => intro i t j v h; exact .inr ⟨h, by simp; omega⟩
  | cons a l ih =>
    intro i t j v h
    rcases ih (i + 1) (t.set i a) j v h with ⟨m, rfl, h2⟩ | ⟨h1, h2⟩
    · exact .inl ⟨m + 1, by omega, by simpa using h2⟩
    · rw [BT.get_set] at h1
      by_cases e : i = j
      · subst e
        rw [if_pos rfl] at h1
        cases hg : t.get i with
        | none => rw [hg] at h1; cases h1
        | some u => rw [hg] at h1; cases h1; exact .inl ⟨0, rfl, rfl⟩
      · rw [if_neg e] at h1
        exact .inr ⟨h1, by simp; omega⟩
theorem frame_start {K : Ks} {φ : Ph} {as : List AV} {cas : Array Value} (h : DenL K φ as cas.toList) (n d : Nat) : FD K φ (BT.args as 0 (BT.mk n d 0)) (cas ++ Array.replicate (n - cas.size) undef) := by
  intro j v hv
  have hlen : as.length = cas.size := by simpa using h.1
  rcases args_get _ _ _ _ _ hv with ⟨m, rfl, h2⟩ | ⟨h1, h2⟩
  · have hm : m < cas.size := by
      rw [← hlen]
      rcases Nat.lt_or_ge m as.length with h' | h'
      · exact h'
      · simp [List.getElem?_eq_none h'] at h2
    have e : (cas ++ Array.replicate (n - cas.size) undef)[0 + m]? = some cas[m] := by simp [Array.getElem?_append, hm]
    exact ⟨cas[m], e, h.2 m v _ h2 (by simp [hm])⟩
  · obtain ⟨h3, rfl⟩ := BT.get_mk _ _ _ _ _ h1
    refine ⟨undef, ?_, den_undef _ _⟩
    have : cas.size ≤ j := by omega
    rw [Array.getElem?_append_right this, Array.getElem?_replicate, if_pos (by omega)]

section
variable {P : Program} {B : Nat} {φ : Ph} {K : Ks} {w : World}
theorem resA_run {s : St} {tm : Array Value} (hr : Rel B φ K s.h w) (hf : FD K φ s.t tm) {g : ResultVar → Sem Value} (hg1 : ∀ t, g (.tmp t) = pure (tm.getD t undef)) (hg2 : ∀ a t, g (.cell a t) = (do loadVar t (← asAddr (tm.getD a undef)))) : ∀ {l : List ResultVar} {r : List AV}, resA P s l = some r →
    ∃ cs : List Value, (l.mapM g).run P w = .ok cs w ∧ DenL K φ r cs := by
  intro l
  induction l with
  | nil => intro r e; cases e; exact ⟨[], by simp, DenL.nil _ _⟩
  | cons x l ih =>
    intro r e
    cases x with
    | tmp t =>
      unfold resA at e
      split at e
      · rename_i r' hr'
        split at e
        · rename_i v hv
          cases e
          obtain ⟨cs, h1, h2⟩ := ih hr'
          obtain ⟨cv, h3, h4⟩ := hf t v hv
          refine ⟨cv :: cs, ?_, DenL.cons h4 h2⟩
          simp only [List.mapM_cons, hg1, Sem.run_bind, Sem.run_pure, Result.andThen_ok, h1, Array.getD_eq_getD_getElem?, h3, Option.getD_some]
        · cases e
      · cases e
    | cell a t =>
      unfold resA at e
      split at e
      · rename_i b off n r' hb hn hr'
        split at e
        · rename_i c hc
          split at e
          · rename_i hle
            split at e
            · rename_i v hv
              cases e
              obtain ⟨cs, h1, h2⟩ := ih hr'
              obtain ⟨cv, h3, h4⟩ := hf a _ hb
              cases h4 with
              | ptr _ _ _ g hg =>
                obtain ⟨cvs, t', hb, hd⟩ := hr.blk b _ g hc hg
                obtain ⟨cv, h5, h6⟩ := ofCells_load hv ((hd.drop off).take n) hn (by simp; omega) (rangeAt_of_block' hb off n)
                refine ⟨cv :: cs, ?_, DenL.cons h6 h2⟩
                simp only [List.mapM_cons, hg2, Sem.run_bind, Sem.run_pure, Result.andThen_ok, h1, Array.getD_eq_getD_getElem?, h3, Option.getD_some, asAddr, h5]
            · cases e
          · cases e
        · cases e
      · cases e
theorem results_run {fn : Func} {s : St} {tm : Array Value} {r : List AV} (hr : Rel B φ K s.h w) (hf : FD K φ s.t tm) (e : resA P s fn.results.toList = some r) : ∃ cv, (results fn tm).run P w = .ok cv w ∧ Den K φ (oneA r) cv := by
  have key : ∃ cs : List Value, (fn.results.mapM (m := Sem) fun | .tmp t => pure (tm.getD t undef) | .cell a t => do loadVar t (← asAddr (tm.getD a undef))).run P w = .ok cs.toArray w ∧ DenL K φ r cs := by
    obtain ⟨cs, h1, h2⟩ := resA_run (g := fun | .tmp t => pure (tm.getD t undef) | .cell a t => do loadVar t (← asAddr (tm.getD a undef))) hr hf (fun _ => rfl) (fun _ _ => rfl) e
    refine ⟨cs, ?_, h2⟩
    rw [Array.mapM_eq_mapM_toList, map_eq_pure_bind, Sem.run_bind, h1]
    rfl
  obtain ⟨cs, h1, h2⟩ := key
  refine ⟨if h : cs.toArray.size = 1 then cs.toArray[0] else .tuple cs.toArray, ?_, ?_⟩
  · unfold results
    rw [Sem.run_bind]
    exact congrArg (fun r => Result.andThen r fun a w' => Sem.run P (pure (if h : a.size = 1 then a[0] else Value.tuple a)) w') h1
  · match r, cs, h2 with
    | [], [], h2 => exact Den.tup_iff.2 ⟨_, rfl, h2⟩
    | [v], [c], h2 => exact h2.2 0 v c rfl rfl
    | a :: b :: l, c :: d :: m, h2 => exact Den.tup_iff.2 ⟨_, by simp, h2⟩
    | [], _ :: _, h2 => exact absurd h2.1 (by simp)
    | _ :: _, [], h2 => exact absurd h2.1 (by simp)
    | [_], _ :: _ :: _, h2 => exact absurd h2.1 (by simp)
    | _ :: _ :: _, [_], h2 => exact absurd h2.1 (by simp)

theorem import_ok {φ' : Ph} {K' : Ks} {h h' : List Blk} {w' : World} {v u : AV} {o : Bool} {cv : Value} (r : Rel B φ K h w) (r' : Rel w.heap.size φ' K' h' w') (hK : ∀ b o v, K b o = some v → K' b o = some v) (hn : KN w.heap.size K K') (hb : Below w.heap.size w w')
    (hd : Den K' φ' v cv) (e : export1 v h' = some (u, o)) :
    ∃ φ'', Ext φ K φ'' K' ∧ KN B K K' ∧ Rel B φ'' K' (import1 h u o).2 w' ∧ Below B w w' ∧ Den K' φ'' (import1 h u o).1 cv ∧ h.length ≤ (import1 h u o).2.length ∧ Keep h.length φ φ'' := by
  have ra : Rel B φ K' h w' := r.after hb hK hn r'
  have plain : ∀ u : AV, Den K' φ' u cv → u.pureB = true → ∃ φ'', Ext φ K φ'' K' ∧ KN B K K' ∧ Rel B φ'' K' h w' ∧ Below B w w' ∧ Den K' φ'' u cv ∧ h.length ≤ h.length ∧ Keep h.length φ φ'' := fun u hu hp =>
    ⟨φ, ⟨fun _ _ h => h, hK⟩, hn.low r.base, ra, Below.low hb r.base, hu.pure hp _, Nat.le_refl _, Keep.refl _ _⟩
  -- a slice that may be appended to
  have owned : ∀ b : Nat, h'[b]? = some .own → ∃ φ'', Ext φ K φ'' K' ∧ Rel B φ'' K' (h ++ [.own]) w' ∧ (∀ g, φ' b = some g → φ'' h.length = some g) ∧ Keep h.length φ φ'' := fun b hown => by
    have hnone : φ h.length = none := r.fresh _ (Nat.le_refl _)
    cases hg : φ' b with
    | none =>
      refine ⟨φ, ⟨fun _ _ h => h, hK⟩, ?_, fun g hg' => (by cases hg'), Keep.refl _ _⟩
      have := ra.ownNone (Nat.le_refl _) hnone
      rwa [hset_end] at this
    | some g =>
      refine ⟨upd φ h.length g, ⟨(upd_ext (K := K) g hnone).ph, hK⟩, ?_, fun g' hg' => (by cases hg'; exact upd_same _ _ _), fun i hi => by unfold upd; rw [if_neg (by omega)]⟩
      have hown' := r'.own b .own g hown rfl hg
      have := ra.fill (Nat.le_refl h.length) hnone .own g (r'.blk b _ g hown hg) (Nat.le_trans r.base hown'.1) rfl
        (fun i b k hb hl hk e => by have := (r.own i b k hb hl hk).2; omega) (fun o v hv => ⟨rfl, ((r'.stab _ _ _ hv).2 b .own g hown rfl hg rfl).2⟩)
      rwa [hset_end] at this
  have oslD : ∀ (φ'' : Ph) (b n : Nat) (f : Nat → AV) (cv : Value), Den K' φ' (.osl b n f) cv → (∀ g, φ' b = some g → φ'' h.length = some g) → Den K' φ'' (.osl h.length n f) cv := fun φ'' b n f cv hd hx => by
    cases hd with
    | osl _ _ _ _ _ h0 hc =>
      refine .osl _ _ n f cv (h0.pure rfl _) fun A m cap hv => ?_
      rcases hc A m cap hv with h1 | ⟨g, ad, esz, h1, h2, h3⟩
      · exact .inl h1
      · exact .inr ⟨g, ad, esz, h1, hx g h2, h3⟩
  unfold export1 at e
  split at e
  · rename_i b n f
    split at e
    · rename_i hown
      cases e
      obtain ⟨φ'', h1, h2, h3, h4⟩ := owned b hown
      exact ⟨φ'', h1, hn.low r.base, h2, Below.low hb r.base, oslD _ _ _ _ _ hd h3, by simp [import1], h4⟩
    · cases e
      exact plain _ hd.osl_ros rfl
  · rename_i b n f l
    split at e
    · rename_i hp
      obtain ⟨cs, rfl, h0⟩ := Den.tup_iff.1 hd
      split at e
      · rename_i hown
        cases e
        obtain ⟨φ'', h1, h2, h3, h4⟩ := owned b hown
        refine ⟨φ'', h1, hn.low r.base, h2, Below.low hb r.base, ?_, by simp [import1], h4⟩
        refine Den.tup_iff.2 ⟨cs, rfl, by have := h0.1; simpa [stripL_length] using this, fun i u v hu hv => ?_⟩
        cases i with
        | zero => cases hu; exact oslD _ _ _ _ _ (h0.2 0 _ v rfl hv) h3
        | succ i =>
          have hu' : (AV.stripL l)[i]? = some u := by simpa using hu
          obtain ⟨x, hx, rfl⟩ := stripL_get hu'
          exact ((h0.2 (i + 1) x v (by simpa using hx) hv).stripped).pure (pureL_get hp i _ hu') _
      · cases e
        refine plain (.tup (.ros false n f :: AV.stripL l)) ?_ (by simp [AV.pureB, AV.pureL, hp])
        refine Den.tup_iff.2 ⟨cs, rfl, by have := h0.1; simpa [stripL_length] using this, fun i u v hu hv => ?_⟩
        cases i with
        | zero => cases hu; exact (h0.2 0 _ v rfl hv).osl_ros
        | succ i =>
          have hu' : (AV.stripL l)[i]? = some u := by simpa using hu
          obtain ⟨x, hx, rfl⟩ := stripL_get hu'
          exact (h0.2 (i + 1) x v (by simpa using hx) hv).stripped
    · cases e
  · split at e
    · rename_i hp
      cases e
      have : import1 h v.strip false = (v.strip, h) := by unfold import1; split <;> first | rfl | (simp_all; done)
      rw [this]
      exact plain _ hd.stripped hp
    · cases e
end

section
variable {R : Type} {P : Program} {cl : Bool} {Γ : Table} {ok imp pure : FuncId → Bool}
/-- What is to be known of the functions that are run. -/
def FunOK (P : Program) (ok : FuncId → Bool) : Prop := ∀ f, ok f = true → ∀ fn c, P.funcs[f]? = some fn → fn.body = some c → codeOK c = true ∧ fn.name ≠ "runtime.NumGoroutine"
/-- What is to be known of a contract. -/
def PureOK (P : Program) (f : FuncId) (as : List AV) (y : AV × Bool) : Prop :=
  ∀ (w : World) (K : Ks) (cas : Array Value), Rel w.heap.size (fun _ => none) K [] w → DenL K (fun _ => none) as cas.toList → Calls P f cas w (Exits w.heap.size (fun _ => none) K w 0 (fun v h => export1 v h) y)
def TabOK (P : Program) (Γ : Table) : Prop := ∀ f c, Γ f = some c → (∃ fn, P.funcs[f]? = some fn ∧ fn.body.isSome = true ∧ fn.name ≠ "runtime.NumGoroutine") ∧ ∀ as y, c as = some (true, y) → PureOK P f as y
def CallDOK (P : Program) (call : CallC R) : Prop :=
  ∀ (f : FuncId) (as : List AV) (h : List Blk) (k : AV → List Blk → Option R) (x : R), call f as h k = some x → ∀ (B : Nat) (φ : Ph) (K : Ks) (w : World) (cas : Array Value), Rel B φ K h w → DenL K φ as cas.toList →
    (∃ fn, P.funcs[f]? = some fn ∧ fn.body.isSome = true ∧ fn.name ≠ "runtime.NumGoroutine") ∧ ∀ u, CallsD P f cas u w fun e u' w' => u' = u ∧ Exits B φ K w h.length k x e w'

theorem dcall_ok {call0 : CallC (AV × List Blk)} {call : CallC R} (hok : FunOK P ok) (hcall : CallOK P call) (hdraw : DrawOK P cl pure call0 call) (n : Nat) : CallDOK P (dcall P cl ok pure call0 call n) := by
  intro f as h k x e B φ K w cas hr hd
  unfold dcall at e
  split at e
  · rename_i hf
    split at e
    · cases e
    · rename_i fn hfn
      split at e
      · cases e
      · rename_i c hc
        obtain ⟨h1, h2⟩ := hok f hf fn c hfn hc
        refine ⟨⟨fn, hfn, by rw [hc]; rfl, h2⟩, fun u => callsD_of_wp hfn hc ?_⟩
        unfold bodyN at e
        refine Code.wp_mono (fun ex a' w' hp => ?_) (goC_sound hcall hdraw n c h1 _ _ φ K _ w e ⟨hr, frame_start hd _ _, rfl, fun i x y hx => by cases hx⟩)
        obtain ⟨ex2, s', φ', K', g1, g2, g3, g4, g5, g6, g7, g8⟩ := hp
        have fin : (match s'.d with
          | [] => match resA P s' fn.results.toList with
            | some r => k (oneA r) s'.h
            | none => none
          | _ :: _ => none) = some x → a'.defers = [] ∧ ∃ v, (results fn a'.tmps).run P w' = .ok v w' ∧ Exits B φ K w h.length k x (.returned v) w' := by
          intro g2
          split at g2
          · rename_i hdn
            split at g2
            · rename_i r hres
              obtain ⟨cv, h3, h4⟩ := results_run g5.rel g5.fd hres
              refine ⟨?_, cv, h3, oneA r, s'.h, φ', K', cv, rfl, g2, g3, g4, g5.rel, g6, h4, g7, g8⟩
              have := g5.df.1
              rw [hdn] at this
              exact List.length_eq_zero_iff.1 this.symm
            · cases g2
          · cases g2
        cases ex with
        | normal =>
          cases ex2 with
          | normal => exact fin g2
          | ret => cases g1
          | exit i => cases g1
        | ret =>
          cases ex2 with
          | ret => exact fin g2
          | normal => cases g1
          | exit i => cases g1
        | exit i =>
          cases ex2 with
          | exit j => cases g2
          | normal => cases g1
          | ret => cases g1
        | goto l => cases ex2 <;> cases g1
        | panic c => cases ex2 <;> cases g1
        | outgrown => cases ex2 <;> cases g1
  · cases e

theorem defers_sound {fn : Func} {x : R} {call : CallC R} (hcall : CallDOK P call) {tm : Array Value} {t : BT} {B : Nat} {φ0 : Ph} {K0 : Ks} {w0 : World} {n0 : Nat} {k' : List Blk → Option R} {Rr : Ending → World → Prop}
    (hfin : ∀ (h : List Blk) (φ : Ph) (K : Ks) (w : World), k' h = some x → Rel B φ K h w → FD K φ t tm → Ext φ0 K0 φ K → KN B K0 K → Below B w0 w → n0 ≤ h.length → Keep n0 φ0 φ → Leaves P fn tm Rr [] .returning w) :
    ∀ (d : List (FuncId × List AV)) (ds : List Deferred) (h : List Blk) (φ : Ph) (K : Ks) (w : World),
    defersC call d h k' = some x → Rel B φ K h w → FD K φ t tm → DefOK K φ d ds → Ext φ0 K0 φ K → KN B K0 K → Below B w0 w → n0 ≤ h.length → Keep n0 φ0 φ → Leaves P fn tm Rr ds .returning w := by
  intro d
  induction d with
  | nil =>
    intro ds h φ K w e hr hf hd h1 h2 h3 h4 h5
    have : ds = [] := List.length_eq_zero_iff.1 hd.1.symm
    subst this
    exact hfin h φ K w e hr hf h1 h2 h3 h4 h5
  | cons y d ih =>
    intro ds h φ K w e hr hf hd h1 h2 h3 h4 h5
    obtain ⟨f, as⟩ := y
    cases ds with
    | nil => exact absurd hd.1 (by simp)
    | cons z ds =>
      obtain ⟨cap, g1, g2⟩ := hd.2 0 (f, as) z rfl rfl
      obtain ⟨⟨fn', hfn, hbody, hname⟩, hC⟩ := hcall f as h _ x e B φ K w (z.args ++ cap) hr g2
      have hb : fn'.body.isNone = false := by cases hh : fn'.body with
        | none => rw [hh] at hbody; cases hbody
        | some _ => rfl
      have hnm : (fn'.name == "runtime.NumGoroutine") = false := by simpa using hname
      refine ⟨by simp, .func f, cap, f, z.args ++ cap, g1, ?_, (hC .returning).mono fun en u' w' hx => ?_⟩
      · rw [g1]
        simp only [invoke, callFunc, Sem.run_bind, run_program, Result.andThen_ok, hfn, hnm, hb, Bool.false_eq_true, if_false, Sem.run_pure]
      · obtain ⟨rfl, v, h', φ', K', cv, rfl, k1, k2, k3, k4, k5, k6, k7, k8⟩ := hx
        exact ih ds h' φ' K' w' k1 k4 (hf.mono k2) (DefOK.mono (K := K) (φ := φ) ⟨by have := hd.1; simpa using this, fun i x y hx hy => hd.2 (i + 1) x y (by simpa using hx) (by simpa using hy)⟩ k2) (h1.trans k2) (h2.trans k3) (h3.trans k5) (Nat.le_trans h4 k7) (h5.trans h4 k8)

theorem bodyC_sound {x : R} {call0 : CallC (AV × List Blk)} {call : CallC R} (hok : FunOK P ok) (hcall : CallOK P call) (hdraw : DrawOK P cl pure call0 call) (n : Nat) {f : FuncId} {fn : Func} {c : Code} (hfn : P.funcs[f]? = some fn) (hb : fn.body = some c) (hc : codeOK c = true)
    {as : List AV} {h : List Blk} {k : AV → List Blk → Option R} (e : bodyC P cl ok pure call0 call n fn c as h k = some x) {B : Nat} {φ : Ph} {K : Ks} {w : World} {cas : Array Value} (hr : Rel B φ K h w) (hd : DenL K φ as cas.toList) :
    Calls P f cas w (Exits B φ K w h.length k x) := by
  refine calls_of_wp_defers hfn hb ?_
  unfold bodyC at e
  refine Code.wp_mono (fun ex a' w' hp => ?_) (goC_sound hcall hdraw n c hc _ _ φ K _ w e ⟨hr, frame_start hd _ _, rfl, fun i x y hx => by cases hx⟩)
  obtain ⟨ex2, s', φ', K', g1, g2, g3, g4, g5, g6, g7, g8⟩ := hp
  have fin : defersC (dcall P cl ok pure call0 call n) s'.d s'.h (fun h' => match resA P { s' with h := h' } fn.results.toList with
      | some r => k (oneA r) h'
      | none => none) = some x → Leaves P fn a'.tmps (Exits B φ K w h.length k x) a'.defers .returning w' := fun g2 => by
    refine defers_sound (dcall_ok hok hcall hdraw n) (t := s'.t) (B := B) (φ0 := φ') (K0 := K') (w0 := w') (n0 := s'.h.length) ?_ s'.d a'.defers s'.h φ' K' w' g2 g5.rel g5.fd g5.df (Ext.refl _ _) (KN.refl _ _) (Below.refl _ _) (Nat.le_refl _) (Keep.refl _ _)
    intro h2 φ2 K2 w2 k1 k2 k3 k4 k5 k6 k7 k8
    split at k1
    · rename_i r hres
      obtain ⟨cv, h3, h4⟩ := results_run (s := { s' with h := h2 }) k2 k3 hres
      exact ⟨cv, h3, oneA r, h2, φ2, K2, cv, rfl, k1, g3.trans k4, g4.trans k5, k2, g6.trans k6, h4, Nat.le_trans g7 k7, g8.trans g7 k8⟩
    · cases k1
  cases ex with
  | normal =>
    cases ex2 with
    | normal => exact fin g2
    | ret => cases g1
    | exit i => cases g1
  | ret =>
    cases ex2 with
    | ret => exact fin g2
    | normal => cases g1
    | exit i => cases g1
  | exit i =>
    cases ex2 with
    | exit j => cases g2
    | normal => cases g1
    | ret => cases g1
  | goto l => cases ex2 <;> cases g1
  | panic c => cases ex2 <;> cases g1
  | outgrown => cases ex2 <;> cases g1

theorem runStep_ok (hm : P.follows .mixedOrders = true) (hok : FunOK P ok) (hΓ : TabOK P Γ) (n : Nat) {call0 : CallC (AV × List Blk)} {call : CallC R} (h0 : CallOK P call0) (hcall : CallOK P call) :
    CallOK P (runStep P cl Γ ok imp n call0 call) := by
  intro f as h k x e B φ K w cas hr hd
  have done : ∀ {v : AV} {o : Bool}, (∃ fn, P.funcs[f]? = some fn ∧ fn.body.isSome = true ∧ fn.name ≠ "runtime.NumGoroutine") → k (import1 h v o).1 (import1 h v o).2 = some x →
      Calls P f cas w (Exits w.heap.size (fun _ => none) K w 0 (fun v h => export1 v h) (v, o)) → (∃ fn, P.funcs[f]? = some fn ∧ fn.body.isSome = true ∧ fn.name ≠ "runtime.NumGoroutine") ∧
    Calls P f cas w (Exits B φ K w h.length k x) := fun hfn hk hC => by
    refine ⟨hfn, hC.mono fun en w' hx => ?_⟩
    obtain ⟨v', h', φ', K', cv, rfl, g1, g2, g3, g4, g5, g6, _⟩ := hx
    obtain ⟨φ'', k1, k2, k3, k4, k5, k6, k7⟩ := import_ok hr g4 g2.ks g3 g5 g6 g1
    exact ⟨_, _, φ'', K', cv, rfl, hk, k1, k2, k3, k4, k5, k6, k7⟩
  unfold runStep at e
  split at e
  · rename_i c hc
    split at e
    · rename_i b v o hv
      split at e
      · rename_i hp
        obtain ⟨h1, h2⟩ := hΓ f c hc
        cases b with
        | true => exact done h1 e (h2 _ _ hv w K cas hr.alone (hd.strip.pure hp _))
        | false => cases e
      · cases e
    · cases e
  · split at e
    · rename_i hf
      split at e
      · cases e
      · rename_i fn hfn
        split at e
        · cases e
        · rename_i c hb
          obtain ⟨h1, h2⟩ := hok f hf fn c hfn hb
          have hfn' : ∃ fn, P.funcs[f]? = some fn ∧ fn.body.isSome = true ∧ fn.name ≠ "runtime.NumGoroutine" := ⟨fn, hfn, by rw [hb]; rfl, h2⟩
          split at e
          · rename_i hp
            simp only [Bool.and_eq_true] at hp
            refine ⟨hfn', (bodyC_sound hok hcall (draw_sound hm h0) n hfn hb h1 e hr.alone (hd.strip.pure hp.1 _)).mono fun en w' hx => ?_⟩
            obtain ⟨v', h', φ', K', cv, rfl, g1, g2, g3, g4, g5, g6, _⟩ := hx
            dsimp only at g1
            split at g1
            · rename_i u o hu
              obtain ⟨φ'', k1, k2, k3, k4, k5, k6, k7⟩ := import_ok hr g4 g2.ks g3 g5 g6 hu
              exact ⟨_, _, φ'', K', cv, rfl, g1, k1, k2, k3, k4, k5, k6, k7⟩
            · cases g1
          · exact ⟨hfn', bodyC_sound hok hcall (draw_sound hm h0) n hfn hb h1 e hr hd⟩
    · cases e

theorem run0_sound (hm : P.follows .mixedOrders = true) (hok : FunOK P ok) (hΓ : TabOK P Γ) (n : Nat) : CallOK P (run0 P cl Γ ok imp n) := by
  induction n with
  | zero => intro f as h k x e; cases e
  | succ n ih => exact runStep_ok hm hok hΓ n ih ih
theorem run_sound (hm : P.follows .mixedOrders = true) (hok : FunOK P ok) (hΓ : TabOK P Γ) (n : Nat) : CallOK P (run (R := R) P cl Γ ok imp n) := by
  induction n with
  | zero => intro f as h k x e; cases e
  | succ n ih => exact runStep_ok hm hok hΓ n (run0_sound hm hok hΓ n) ih
/-- A call that names no local block. -/
theorem run_calls (hm : P.follows .mixedOrders = true) (hok : FunOK P ok) (hΓ : TabOK P Γ) (n : Nat) {f : FuncId} {as : List AV} {k : AV → List Blk → Option R} {x : R} (e : run P cl Γ ok imp n f as [] k = some x)
    {K : Ks} {w : World} {cas : Array Value} (hr : Rel w.heap.size (fun _ => none) K [] w) (hd : DenL K (fun _ => none) as cas.toList) : Calls P f cas w (Exits w.heap.size (fun _ => none) K w 0 k x) :=
  (run_sound hm hok hΓ n f as [] k x e w.heap.size _ K w cas hr hd).2
end
end Go.Proofs.Ytdhlbfhfenomcaa.Ab
