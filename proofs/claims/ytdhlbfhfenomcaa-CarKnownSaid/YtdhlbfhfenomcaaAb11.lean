/- A region that draws its order: what its operations do is the same in every order. -/
import Derived.Test.YtdhlbfhfenomcaaAb10
namespace Go.Proofs.Ytdhlbfhfenomcaa.Ab
open Go Go.RowKit
set_option linter.unusedVariables false
set_option linter.unusedSimpArgs false

/-- A frame, as what is read of it. -/
abbrev FrF := Nat → Option AV
def evF (T : FrF) : Operand → Option AV
  | .tmp i => T i
  | .const v => ofV v
  | .global _ => none
  | .func f => some (.fn (.func f) [] [])
def evsF (T : FrF) : List Operand → Option (List AV)
  | [] => some []
  | x :: l => match evF T x, evsF T l with
    | some a, some b => some (a :: b)
    | _, _ => none
def putF (T : FrF) (d : Option Tmp) (v : AV) : FrF := match d with
  | none => T
  | some d => fun j => if d = j then (T d).map (fun _ => v) else T j
theorem ev_get (t : BT) : ev t = evF t.get := by funext x; cases x <;> rfl
theorem evs_get (t : BT) : ∀ l, evs t l = evsF t.get l := by
  intro l
  induction l with
  | nil => rfl
  | cons x l ih => unfold evs evsF; rw [ih, ev_get]; rfl
theorem putT_get (t : BT) (d : Option Tmp) (v : AV) : (putT t d v).get = putF t.get d v := by
  cases d with
  | none => rfl
  | some d => funext j; exact BT.get_set t d j v
def calleeF (T : FrF) (c : Call) : Option (FuncId × List AV) :=
  match c.callee with
  | .value f => match evF T f, evsF T c.args.toList with
    | some (.fn (.func g) first caps), some as => some (g, first ++ as ++ caps)
    | _, _ => none
  | _ => none
theorem callee_get (t : BT) (c : Call) : callee t c = calleeF t.get c := by unfold callee calleeF; rw [evs_get, ev_get]; rfl
def wantF (ops : Array Oper) (T : FrF) (o : Oper) : Option Bool :=
  match o.guard with
  | none => some true
  | some (j, want) => match (ops[j]?).bind (·.dst) with
    | none => some false
    | some d => match T d with
      | some (.bool b) => some (b == want)
      | some _ => some false
      | none => none
def FDF (K : Ks) (φ : Ph) (T : FrF) (tm : Array Value) : Prop := ∀ (i : Nat) (v : AV), T i = some v → ∃ cv, tm[i]? = some cv ∧ Den K φ v cv
theorem FDF.mono {K K' : Ks} {φ φ' : Ph} {T : FrF} {tm : Array Value} (h : FDF K φ T tm) (e : Ext φ K φ' K') : FDF K' φ' T tm := fun i v hv => let ⟨cv, h1, h2⟩ := h i v hv; ⟨cv, h1, h2.mono e⟩
theorem FDF.put {K : Ks} {φ : Ph} {T : FrF} {a : Act} (h : FDF K φ T a.tmps) (d : Option Tmp) {v : AV} {cv : Value} (hv : Den K φ v cv) : FDF K φ (putF T d v) (a.put d cv).tmps := by
  cases d with
  | none => exact h
  | some d =>
    intro i u hu
    unfold putF at hu
    simp only at hu
    by_cases e : d = i
    · subst e
      rw [if_pos rfl] at hu
      cases hg : T d with
      | none => rw [hg] at hu; cases hu
      | some w =>
        rw [hg] at hu; cases hu
        obtain ⟨c, h1, _⟩ := h d w hg
        have hd : d < a.tmps.size := by rcases Nat.lt_or_ge d a.tmps.size with h' | h'; exact h'; simp [h'] at h1
        exact ⟨cv, by simp [Act.put, hd], hv⟩
    · rw [if_neg e] at hu
      obtain ⟨c, h1, h2⟩ := h i u hu
      exact ⟨c, by show (a.tmps.setIfInBounds d cv)[i]? = _; rw [Array.getElem?_setIfInBounds_ne e]; exact h1, h2⟩
theorem evF_den {K : Ks} {φ : Ph} {T : FrF} {a : Act} (h : FDF K φ T a.tmps) {x : Operand} {v : AV} (hv : evF T x = some v) : Den K φ v (a.eval x) := by
  cases x with
  | tmp i =>
    obtain ⟨c, h1, h2⟩ := h i v hv
    show Den K φ v (a.tmps.getD i undef)
    rw [Array.getD_eq_getD_getElem?, h1]; exact h2
  | const c => exact ofV_den hv K φ
  | global g => cases hv
  | func f => cases hv; exact .fn _ _ _ _ _ _ rfl (fun i u v h => by cases h) rfl (fun i u v h => by cases h)
theorem evsF_den {K : Ks} {φ : Ph} {T : FrF} {a : Act} (h : FDF K φ T a.tmps) : ∀ {l : List Operand} {vs : List AV}, evsF T l = some vs → DenL K φ vs (l.map a.eval) := by
  intro l
  induction l with
  | nil => intro vs hv; cases hv; exact DenL.nil _ _
  | cons x l ih =>
    intro vs hv
    unfold evsF at hv
    split at hv
    · rename_i u us hu hus; cases hv; exact DenL.cons (evF_den h hu) (ih hus)
    · cases hv
theorem wantF_sound {K : Ks} {φ : Ph} {ops : Array Oper} {T : FrF} {o : Oper} {b : Bool} {a : Act} (e : wantF ops T o = some b) (hf : FDF K φ T a.tmps) : Region.wanted o (yielded ops a.tmps) = b := by
  unfold wantF at e
  unfold Region.wanted
  split at e
  · rename_i hg; rw [hg]; cases e; rfl
  · rename_i j want hg
    rw [hg]
    simp only
    unfold yielded
    split at e
    · rename_i hd; rw [hd]; cases e; simp
    · rename_i d hd
      rw [hd]
      simp only [Option.bind_some]
      split at e
      · rename_i b' hb
        obtain ⟨cv, h1, h2⟩ := hf d _ hb
        cases h2
        rw [h1]
        cases e
        cases b' <;> cases want <;> rfl
      · rename_i v hv hnb
        obtain ⟨cv, h1, h2⟩ := hf d _ hnb
        rw [h1]
        cases e
        have : ∀ b, cv ≠ .bool b := fun b e' => by
          subst e'
          cases h2 with
          | bool => exact hv _ rfl
          | osl _ _ _ _ _ h _ => cases h
        cases cv <;> first | rfl | (rename_i b; exact absurd rfl (this b))
      · cases e

/-! ### What an operation hangs on -/
theorem evF_congr {T T' : FrF} {x : Operand} (h : ∀ d, x = .tmp d → T' d = T d) : evF T' x = evF T x := by
  cases x <;> first | rfl | exact h _ rfl
section
variable {P : Program}
theorem aop_congr {ρ ρ' : Operand → Option AV} {H : Nat → Option Blk} {slot : Nat} {o : Oper} (h : ∀ x ∈ o.op.operands, ρ' x = ρ x) : aop P ρ' H slot o = aop P ρ H slot o := by
  have h2 : ∀ (l : List Operand), (∀ x ∈ l, ρ' x = ρ x) → aop.evs2 ρ' l = aop.evs2 ρ l := by
    intro l
    induction l with
    | nil => intro _; rfl
    | cons x l ih => intro hl; unfold aop.evs2; rw [hl x (by simp), ih (fun y hy => hl y (by simp [hy]))]
  have h3 : ∀ (l : List (Nat × Operand)), (∀ x ∈ l, ρ' x.2 = ρ x.2) → evParts ρ' l = evParts ρ l := by
    intro l
    induction l with
    | nil => intro _; rfl
    | cons x l ih => intro hl; obtain ⟨i, x⟩ := x; unfold evParts; rw [hl (i, x) (by simp), ih (fun y hy => hl y (by simp [hy]))]
  unfold aop
  cases ho : o.op <;> rw [ho] at h <;> simp only [Op.operands] at h <;> dsimp only <;> try rfl
  case makeMap t m => cases m <;> rfl
  case move x => rw [h x (by simp)]
  case assign x => rw [h x (by simp)]
  case pick c a b => rw [h c (by simp), h a (by simp), h b (by simp)]
  case box t x => rw [h x (by simp)]
  case build t ps => rw [h3 ps.toList (fun x hx => h x.2 (by simp; exact ⟨x.1, by simpa using hx⟩))]
  case buildSlice t n ps => rw [h3 ps.toList (fun x hx => h x.2 (by simp; exact ⟨x.1, by simpa using hx⟩))]
  case load t x => rw [h x (by simp)]
  case store t x y => rw [h x (by simp), h y (by simp)]
  case nilCheck x => rw [h x (by simp)]
  case binOp op t x y u => rw [h x (by simp), h y (by simp)]
  case unOp op t x => rw [h x (by simp)]
  case convert s t x => rw [h x (by simp)]
  case makeInterface t x => rw [h x (by simp)]
  case makeFunc f a b => rw [h2 a.toList (fun x hx => h x (by simp at hx ⊢; exact .inl hx)), h2 b.toList (fun x hx => h x (by simp at hx ⊢; exact .inr hx))]
  case insert t m k x => rw [h m (by simp), h k (by simp), h x (by simp)]
  case mapUpdate t m k x => rw [h m (by simp), h k (by simp), h x (by simp)]
  case slice t x lo hi mx =>
    cases mx with
    | some _ => rfl
    | none =>
      have hx := h x (by simp)
      cases lo with
      | none =>
        cases hi with
        | none => (try dsimp only); rw [hx]
        | some e => have := h e (by simp); (try dsimp only); rw [hx, this]
      | some e0 =>
        have h0 := h e0 (by simp)
        cases hi with
        | none => (try dsimp only); rw [hx, h0]
        | some e => have := h e (by simp); (try dsimp only); rw [hx, h0, this]
  case fieldAddr t x i => rw [h x (by simp)]
  case field t x i => rw [h x (by simp)]
  case indexAddr t x i => rw [h x (by simp), h i (by simp)]
  case index t x i => rw [h x (by simp), h i (by simp)]
  case typeAssert x xt t ok => rw [h x (by simp)]
  case extract x i => rw [h x (by simp)]
  case call c =>
    cases hc : c.callee <;> (try dsimp only) <;> try rfl
    rename_i b
    have hargs : ∀ x ∈ c.args.toList, ρ' x = ρ x := fun x hx => h x (by unfold Call.operands; rw [hc]; simpa using hx)
    cases b <;> (try dsimp only) <;> try rfl
    · rw [h2 _ hargs]
    · cases hx : c.args[0]? with
      | none => rfl
      | some x => simp only [Option.bind_some]; rw [hargs x (by simpa using Array.mem_of_getElem? hx)]
    · rw [h2 _ hargs]
    · rw [h2 _ hargs]
theorem insA_H {H H' : Nat → Option Blk} {t : TypeId} {m k x : Option AV} {c : Bool} {r : Res} (e : insA P t H m k x = some (c, r)) (h : ∀ b ∈ r.rd, H' b = H b) : insA P t H' m k x = some (c, r) := by
  unfold insA at e ⊢
  split at e
  · rename_i b key a kt et hu
    split at e
    · rename_i es hb
      split at e
      · rename_i hc
        cases e
        have := h b (by simp)
        simp only [hu, this, hb]; rw [if_pos hc]
      · cases e
    · cases e
  · cases e
theorem aop_H {ρ : Operand → Option AV} {H H' : Nat → Option Blk} {slot : Nat} {o : Oper} {c : Bool} {r : Res} (e : aop P ρ H slot o = some (c, r)) (h : ∀ b ∈ r.rd, H' b = H b) : aop P ρ H' slot o = some (c, r) := by
  unfold aop at e ⊢
  cases ho : o.op <;> rw [ho] at e <;> (try simp only at e ⊢) <;> try exact e
  case makeMap t m => cases m <;> exact e
  case slice t x lo hi mx => cases mx <;> exact e
  case load t x =>
    split at e
    · rename_i b off n hx hn
      split at e
      · rename_i l hl
        split at e
        · split at e
          · rename_i hle _ a ha
            cases e
            have := h b (by simp)
            first | (simp only [this, hl, hle, if_true, ha]; done) | (simp only [hx, hn, this, hl, hle, if_true, ha]; done)
          · cases e
        · cases e
      · cases e
    · first | exact e | (rename_i hx hn; rw [hx, hn]; exact e)
    · cases e
  case store t x y =>
    split at e
    · rename_i b off a n hx hy hn
      split at e
      · rename_i l hl
        split at e
        · rename_i hc
          cases e
          have := h b (by simp)
          first | (simp only [this, hl]; rw [if_pos hc]; done) | (simp only [hx, hy, hn, this, hl]; rw [if_pos hc]; done)
        · cases e
      · cases e
    · cases e
  case insert t m k x => exact insA_H e h
  case mapUpdate t m k x => exact insA_H e h
  case call cc =>
    cases hc : cc.callee with
    | value f => rw [hc] at e; cases e
    | invoke a b => rw [hc] at e; cases e
    | builtin b =>
      rw [hc] at e
      cases b <;> simp only at e ⊢ <;> try exact e
      split at e
      · rename_i a b t u us hxy hty
        split at e
        · rename_i el el' n f m g hu hu2 ha hb
          split at e
          · rename_i i z hi hz
            split at e
            · rename_i rd kill hcan
              cases e
              have hc2 : aop.canAppend H' a = some (rd, kill) := by
                unfold aop.canAppend at hcan ⊢
                split at hcan
                · exact hcan
                · exact hcan
                · split at hcan
                  · rename_i bb nn ff xx hbb
                    cases hcan
                    have := h bb (by simp)
                    simp only [this, hbb]
                  · cases hcan
                · cases hcan
              first | (simp only [hc2]; done) | (simp only [hxy, hty, hu, hu2, ha, hb, hi, hz, hc2]; done)
            · cases e
          · cases e
        · cases e
      · cases e
/-- An operation that makes no block does not hang on the slot. -/
theorem aop_slot {ρ : Operand → Option AV} {H : Nat → Option Blk} {s s' : Nat} {o : Oper} (h : allocs o = false) : aop P ρ H s' o = aop P ρ H s o := by
  unfold aop
  unfold allocs at h
  cases ho : o.op <;> rw [ho] at h <;> (try simp only at h ⊢) <;> try (first | (cases h; done) | rfl)
  case slice t x lo hi mx => cases mx <;> rfl
  case call c =>
    cases hc : c.callee <;> rw [hc] at h <;> (try simp only at h ⊢)
    rename_i b
    cases b <;> (try simp only at h ⊢)
    cases h
/-- What it writes. -/
theorem aop_wr {ρ : Operand → Option AV} {H : Nat → Option Blk} {slot : Nat} {o : Oper} {c : Bool} {r : Res} (e : aop P ρ H slot o = some (c, r)) (h : writes o = false) : r.wr = [] ∨ (allocs o = true ∧ ∃ b, r.wr = [(slot, b)]) := by
  unfold aop at e
  have h : writes0 o = false := by unfold writes at h; simp only [Bool.or_eq_false_iff] at h; exact h.2
  unfold writes0 at h
  unfold allocs
  cases ho : o.op <;> rw [ho] at e h <;> (try simp only at e h ⊢) <;> (try (cases h; done))
  case makeMap t m =>
    cases m with
    | none => cases e; right; exact ⟨trivial, _, rfl⟩
    | some m => cases e
  case slice t x lo hi mx =>
    cases mx with
    | some m => cases e
    | none => dsimp only at e; (repeat' (split at e)) <;> first | (cases e; done) | (cases e; left; rfl)
  case call cc =>
    cases hc : cc.callee with
    | value f => rw [hc] at e; cases e
    | invoke a b => rw [hc] at e; cases e
    | builtin b =>
      rw [hc] at e h
      cases b <;> simp only at e h <;> first | (cases e; done) | (cases h; done) | ((repeat' (split at e)) <;> first | (cases e; done) | (cases e; left; rfl))
  case buildSlice t n ps =>
    split at e
    · split at e
      · split at e
        · split at e
          · rename_i l _ _
            cases hp : AV.pureL (AV.stripL l) with
            | true => simp only [hp, cond_true] at e; cases e; left; rfl
            | false => simp only [hp, cond_false] at e; cases e; right; exact ⟨trivial, _, rfl⟩
          · cases e
        · cases e
      · cases e
    · cases e
  all_goals (try (repeat' (split at e)) <;> first | (cases e; done) | (cases e; left; rfl; done) | (cases e; right; exact ⟨trivial, _, rfl⟩))
theorem insA_keys {H : Nat → Option Blk} {t : TypeId} {m k x : Option AV} {c : Bool} {r : Res} (e : insA P t H m k x = some (c, r)) : ∀ b ∈ r.wr.map (·.1), (H b).isSome = true := by
  unfold insA at e
  split at e
  · split at e
    · rename_i hb
      split at e
      · cases e
        intro b' hb'
        simp at hb'
        subst hb'
        rw [hb]; rfl
      · cases e
    · cases e
  · cases e
/-- Where it writes. -/
theorem aop_keys {ρ : Operand → Option AV} {H : Nat → Option Blk} {slot : Nat} {o : Oper} {c : Bool} {r : Res} (e : aop P ρ H slot o = some (c, r)) : ∀ b ∈ r.wr.map (·.1), (b = slot ∧ allocs o = true) ∨ (H b).isSome = true := by
  cases hw : writes0 o with
  | false =>
    have hw' : isTmp o = false := by
      unfold isTmp
      cases hop : o.op <;> try rfl
      rename_i cc
      simp only
      cases hc : cc.callee <;> try rfl
      rename_i v
      simp only [aop, hop, hc] at e
      cases e
    rcases aop_wr e (by unfold writes; rw [hw, hw']; rfl) with h | ⟨h, x, h2⟩
    · rw [h]; intro b hb; cases hb
    · rw [h2]; intro b hb; simp at hb; exact .inl ⟨hb, h⟩
  | true =>
    unfold writes0 at hw
    cases hop : o.op <;> rw [hop] at hw <;> simp only at hw <;> try (cases hw; done)
    case insert t m k x => simp only [aop, hop] at e; exact fun b hb => .inr (insA_keys e b hb)
    case mapUpdate t m k x => simp only [aop, hop] at e; exact fun b hb => .inr (insA_keys e b hb)
    case store t x y =>
      simp only [aop, hop] at e
      split at e
      · split at e
        · rename_i hb
          split at e
          · cases e
            intro b' hb'
            simp at hb'
            subst hb'
            exact .inr (by rw [hb]; rfl)
          · cases e
        · cases e
      · cases e
    case call cc =>
      have hal : allocs o = true := by
        unfold allocs; rw [hop]; simp only
        cases hc : cc.callee <;> rw [hc] at hw <;> (try simp only at hw) <;> try (cases hw; done)
        rename_i b
        cases b <;> (try simp only at hw) <;> first | rfl | (cases hw; done)
      cases hc : cc.callee <;> rw [hc] at hw <;> (try simp only at hw) <;> try (cases hw; done)
      rename_i b
      cases b <;> (try simp only at hw) <;> try (cases hw; done)
      simp only [aop, hop, hc] at e
      split at e
      · split at e
        · split at e
          · split at e
            · rename_i rd kill hcan
              have hr := Option.some.inj e
              have hr2 := (Prod.mk.inj hr).2
              subst hr2
              intro b' hb'
              simp only [List.map_append, List.map_cons, List.map_nil, List.mem_append, List.mem_singleton] at hb'
              rcases hb' with hb' | hb'
              · unfold aop.canAppend at hcan
                split at hcan
                · cases hcan; cases hb'
                · cases hcan; cases hb'
                · split at hcan
                  · rename_i hbo
                    cases hcan
                    simp at hb'
                    subst hb'
                    exact .inr (by rw [hbo]; rfl)
                  · cases hcan
                · cases hcan
              · exact .inl ⟨hb', hal⟩
            · cases e
          · cases e
        · cases e
      · cases e
end
end Go.Proofs.Ytdhlbfhfenomcaa.Ab
