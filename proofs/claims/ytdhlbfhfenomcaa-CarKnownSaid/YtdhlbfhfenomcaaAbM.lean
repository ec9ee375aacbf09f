/- Calls that have been reckoned before: closed arguments, compared. -/
import Derived.Test.YtdhlbfhfenomcaaAb16
namespace Go.Proofs.Ytdhlbfhfenomcaa.Ab
open Go Go.RowKit
set_option linter.unusedVariables false
set_option linter.unusedSimpArgs false

def allB (n : Nat) (g : Nat → Bool) : Bool := Nat.rec (motive := fun _ => Bool) true (fun i ih => g i && ih) n
theorem allB_get {n : Nat} {g : Nat → Bool} (h : allB n g = true) : ∀ i, i < n → g i = true := by
  induction n with
  | zero => intro i hi; omega
  | succ n ih =>
    have h' : (g n && allB n g) = true := h
    simp only [Bool.and_eq_true] at h'
    intro i hi
    by_cases e : i = n
    · subst e; exact h'.1
    · exact ih h'.2 i (by omega)
def zipB (g : AV → AV → Bool) : List AV → List AV → Bool
  | [], [] => true
  | a :: l, b :: m => g a b && zipB g l m
  | _, _ => false
theorem zipB_get {g : AV → AV → Bool} : ∀ {l m : List AV}, zipB g l m = true → l.length = m.length ∧ ∀ (i : Nat) (u : AV), l[i]? = some u → ∃ v, m[i]? = some v ∧ g u v = true
  | [], [], _ => ⟨rfl, fun i u h => by cases h⟩
  | a :: l, b :: m, h => by
    simp only [zipB, Bool.and_eq_true] at h
    obtain ⟨h1, h2⟩ := zipB_get h.2
    refine ⟨by simp [h1], fun i u hu => ?_⟩
    cases i with
    | zero => cases hu; exact ⟨b, rfl, h.1⟩
    | succ i => exact h2 i u (by simpa using hu)
  | [], _ :: _, h => by simp [zipB] at h
  | _ :: _, [], h => by simp [zipB] at h
/-- The same, as far as closed values tell. -/
def eqA : Nat → AV → AV → Bool
  | 0, _, _ => false
  | d + 1, .int k n, .int k' n' => decide (k = k') && decide (n = n')
  | d + 1, .bool x, .bool y => (x && y) || (!x && !y)
  | d + 1, .nilp, .nilp => true
  | d + 1, .nils, .nils => true
  | d + 1, .nilf, .nilf => true
  | d + 1, .nili, .nili => true
  | d + 1, .nilm, .nilm => true
  | d + 1, .ros fl n f, .ros fl' n' f' => (!fl || fl') && Nat.beq n n' && allB n (fun i => eqA d (f i) (f' i))
  | d + 1, .agg l, .agg m => zipB (eqA d) l m
  | d + 1, .tup l, .tup m => zipB (eqA d) l m
  | _, _, _ => false
theorem eqA_cells {d : Nat} {a b : AV} (h : eqA d a b = true) : (cellsOf a).length = (cellsOf b).length ∧ ∀ (i : Nat) (u : AV), (cellsOf a)[i]? = some u → ∃ v d', d' ≤ d ∧ (cellsOf b)[i]? = some v ∧ eqA d' u v = true := by
  have one : ∀ {a b : AV}, eqA d a b = true → cellsOf a = [a] → cellsOf b = [b] → (cellsOf a).length = (cellsOf b).length ∧ ∀ (i : Nat) (u : AV), (cellsOf a)[i]? = some u → ∃ v d', d' ≤ d ∧ (cellsOf b)[i]? = some v ∧ eqA d' u v = true := by
    intro a b h ha hb
    rw [ha, hb]
    refine ⟨rfl, fun i u hu => ?_⟩
    rcases i with _ | i
    · cases hu; exact ⟨b, d, Nat.le_refl _, rfl, h⟩
    · simp at hu
  cases d with
  | zero => simp [eqA] at h
  | succ d =>
    cases a <;> cases b <;> first | (simp [eqA] at h; done) | exact one h rfl rfl | skip
    rename_i l m
    have hz : zipB (eqA d) l m = true := h
    obtain ⟨h1, h2⟩ := zipB_get hz
    exact ⟨h1, fun i u hu => let ⟨v, h3, h4⟩ := h2 i u hu; ⟨v, d, Nat.le_succ _, h3, h4⟩⟩
theorem eqA_den {K : Ks} : ∀ (d : Nat) {φ : Ph} {a b : AV} {v : Value}, eqA d a b = true → Den K φ b v → Den K φ a v := by
  intro d
  induction d using Nat.strongRecOn with
  | _ d ih =>
    intro φ a b v h hd
    cases d with
    | zero => simp [eqA] at h
    | succ d =>
      cases a <;> cases b <;> first | (simp [eqA] at h; done) | skip
      case int.int k n k' n' =>
        simp only [eqA, Bool.and_eq_true, decide_eq_true_eq] at h
        obtain ⟨rfl, rfl⟩ := h; exact hd
      case bool.bool x y =>
        have : x = y := by revert h; cases x <;> cases y <;> simp [eqA]
        subst this; exact hd
      case nilp.nilp => exact hd
      case nils.nils => exact hd
      case nilf.nilf => exact hd
      case nili.nili => exact hd
      case nilm.nilm => exact hd
      case ros.ros fl n f fl' n' f' =>
        simp only [eqA, Bool.and_eq_true] at h
        obtain ⟨⟨h1, h2⟩, h3⟩ := h
        have h2 := Nat.eq_of_beq_eq_true h2
        subst h2
        have hc := fun j (hj : j < n) => eqA_cells (allB_get h3 j hj)
        have hfl : fl = true → fl' = true := fun e => by subst e; simpa using h1
        cases hd with
        | rosn => 
          cases fl with
          | false => exact .rosn ..
          | true => exact absurd (hfl rfl) (by simp)
        | rosf =>
          cases fl with
          | false => exact .rosn ..
          | true => exact .rosf ..
        | ros _ _ _ _ cb o esz cap cv c0 c1 c2 c3 c4 =>
          refine .ros _ fl n f cb o esz cap cv c0 (fun e => c1 (hfl e)) (fun j hj => by rw [(hc j hj).1]; exact c2 j hj) (fun j l u hj hu => ?_) (fun j l u hj hu => ?_)
          · obtain ⟨v, d', _, g1, _⟩ := (hc j hj).2 l u hu
            exact c3 j l v hj g1
          · obtain ⟨v, d', g0, g1, g2⟩ := (hc j hj).2 l u hu
            exact ih d' (by omega) g2 (c4 j l v hj g1)
      case agg.agg l m =>
        obtain ⟨h1, h2⟩ := zipB_get (show zipB (eqA d) l m = true from h)
        obtain ⟨cs, rfl, hl⟩ := Den.agg_iff.1 hd
        refine Den.agg_iff.2 ⟨cs, rfl, h1.trans hl.1, fun i u v hu hv => ?_⟩
        obtain ⟨x, g1, g2⟩ := h2 i u hu
        exact ih d (Nat.lt_succ_self _) g2 (hl.2 i x v g1 hv)
      case tup.tup l m =>
        obtain ⟨h1, h2⟩ := zipB_get (show zipB (eqA d) l m = true from h)
        obtain ⟨cs, rfl, hl⟩ := Den.tup_iff.1 hd
        refine Den.tup_iff.2 ⟨cs, rfl, h1.trans hl.1, fun i u v hu hv => ?_⟩
        obtain ⟨x, g1, g2⟩ := h2 i u hu
        exact ih d (Nat.lt_succ_self _) g2 (hl.2 i x v g1 hv)
/-- What has been reckoned: function, arguments, answer. -/
abbrev Memo := List (Nat × List AV × AV)
def findM : Memo → Nat → List AV → Option (Bool × AV × Bool)
  | [], _, _ => none
  | (g, l, v) :: M, f, m => cond (Nat.beq g f && zipB (eqA 6) l m) (some (true, v, false)) (findM M f m)
def tabM (M : Memo) (Γ : Table) : Table := fun f => cond (M.any fun x => Nat.beq x.1 f) (some (findM M f)) (Γ f)
section
variable {P : Program} {cl : Bool} {Γ : Table} {ok imp : FuncId → Bool}
def MemoOK (P : Program) (M : Memo) : Prop := ∀ x ∈ M, (∃ fn, P.funcs[x.1]? = some fn ∧ fn.body.isSome = true ∧ fn.name ≠ "runtime.NumGoroutine") ∧ PureOK P x.1 x.2.1 (x.2.2, false)
theorem memo_nil : MemoOK P [] := fun x hx => by cases hx
theorem memo_cons {x : Nat × List AV × AV} {M : Memo} (h : MemoOK P M) (hx : (∃ fn, P.funcs[x.1]? = some fn ∧ fn.body.isSome = true ∧ fn.name ≠ "runtime.NumGoroutine") ∧ PureOK P x.1 x.2.1 (x.2.2, false)) : MemoOK P (x :: M) := fun y hy => by
  rcases List.mem_cons.1 hy with rfl | hy
  · exact hx
  · exact h y hy
theorem tabM_ok {M : Memo} (h : MemoOK P M) (hΓ : TabOK P Γ) : TabOK P (tabM M Γ) := by
  intro f c hc
  unfold tabM at hc
  cases hany : M.any fun x => Nat.beq x.1 f with
  | false => rw [hany] at hc; exact hΓ f c hc
  | true =>
    rw [hany] at hc
    simp only [cond_true, Option.some.injEq] at hc
    subst hc
    rw [List.any_eq_true] at hany
    obtain ⟨x, hx, hxf⟩ := hany
    have hxf := Nat.eq_of_beq_eq_true hxf
    subst hxf
    refine ⟨(h x hx).1, fun l y hy => ?_⟩
    clear hx
    induction M with
    | nil => cases hy
    | cons z M ih =>
      obtain ⟨g, l', v⟩ := z
      unfold findM at hy
      cases hb : Nat.beq g x.1 && zipB (eqA 6) l' l with
      | false => rw [hb] at hy; exact ih (fun w hw => h w (List.mem_cons_of_mem _ hw)) hy
      | true =>
        rw [hb] at hy
        cases hy
        simp only [Bool.and_eq_true] at hb
        have hg := Nat.eq_of_beq_eq_true hb.1
        obtain ⟨z1, z2⟩ := zipB_get hb.2
        have hz := (h (g, l', v) (List.mem_cons_self ..)).2
        rw [← hg]
        intro w K cas hr hd
        refine hz w K cas hr ⟨z1.trans hd.1, fun i u cv hu hcv => ?_⟩
        obtain ⟨a, g1, g2⟩ := z2 i u hu
        exact eqA_den 6 g2 (hd.2 i a cv g1 hcv)
theorem fn_there {f : FuncId} (hf : (P.funcs[f]?).any (fun fn => fn.body.isSome && !(fn.name == "runtime.NumGoroutine")) = true) : ∃ fn, P.funcs[f]? = some fn ∧ fn.body.isSome = true ∧ fn.name ≠ "runtime.NumGoroutine" := by
  cases hfn : P.funcs[f]? with
  | none => rw [hfn] at hf; cases hf
  | some fn =>
    rw [hfn] at hf
    simp only [Option.any_some, Bool.and_eq_true, Bool.not_eq_true', beq_eq_false_iff_ne] at hf
    exact ⟨fn, rfl, hf.1, hf.2⟩
/-- A call that is reckoned. -/
theorem memo_run (hm : P.follows .mixedOrders = true) (hok : FunOK P ok) (hΓ : TabOK P Γ) (n : Nat) {f : FuncId} {l : List AV} {v : AV} (e : run P cl Γ ok imp n f l [] (fun v h => export1 v h) = some (v, false)) (hf : (P.funcs[f]?).any (fun fn => fn.body.isSome && !(fn.name == "runtime.NumGoroutine")) = true) :
    (∃ fn, P.funcs[f]? = some fn ∧ fn.body.isSome = true ∧ fn.name ≠ "runtime.NumGoroutine") ∧ PureOK P f l (v, false) := by
  exact ⟨fn_there hf, fun w K cas hr hd => run_calls hm hok hΓ n e hr hd⟩
/-- The functions that are run. -/
def chkF (P : Program) (f : FuncId) : Bool := match P.funcs[f]? with
  | some fn => match fn.body with
    | some c => codeOK c && !(fn.name == "runtime.NumGoroutine")
    | none => true
  | none => true
def okL (l : List Nat) : FuncId → Bool := fun f => l.any (Nat.beq f)
theorem funOK_of {l : List Nat} (h : ∀ f ∈ l, chkF P f = true) : FunOK P (okL l) := by
  intro f hf fn c hfn hc
  unfold okL at hf
  rw [List.any_eq_true] at hf
  obtain ⟨g, hg, hgf⟩ := hf
  have := Nat.eq_of_beq_eq_true hgf
  subst this
  have h1 := h _ hg
  unfold chkF at h1
  rw [hfn] at h1
  simp only [hc, Bool.and_eq_true, Bool.not_eq_true', beq_eq_false_iff_ne] at h1
  exact h1
theorem chk_append {l m : List Nat} (h : ∀ f ∈ l, chkF P f = true) (k : ∀ f ∈ m, chkF P f = true) : ∀ f ∈ l ++ m, chkF P f = true := fun f hf => (List.mem_append.1 hf).elim (h f) (k f)
theorem chk_all {l : List Nat} (h : l.all (chkF P) = true) : ∀ f ∈ l, chkF P f = true := List.all_eq_true.1 h
end
end Go.Proofs.Ytdhlbfhfenomcaa.Ab
