/- A region that draws its order, third part: one step may come ahead of another; what is said of memory is kept. -/
import Derived.Test.YtdhlbfhfenomcaaAb12
namespace Go.Proofs.Ytdhlbfhfenomcaa.Ab
open Go Go.RowKit
set_option linter.unusedVariables false
set_option linter.unusedSimpArgs false

theorem applyWr_nil (h : List Blk) : applyWr h [] = h := rfl
theorem applyWr_one (h : List Blk) (s : Nat) (b : Blk) : applyWr h [(s, b)] = hset h s b := rfl

section
variable {P : Program} {call0 : CallC (AV × List Blk)} {ops : Array Oper} {base : Nat}
theorem calleeF_congr {T T' : FrF} {c : Call} (h : ∀ x ∈ c.operands, evF T' x = evF T x) : calleeF T' c = calleeF T c := by
  unfold calleeF
  have h2 : ∀ (l : List Operand), (∀ x ∈ l, evF T' x = evF T x) → evsF T' l = evsF T l := by
    intro l
    induction l with
    | nil => intro _; rfl
    | cons x l ih => intro hl; unfold evsF; rw [hl x (by simp), ih (fun y hy => hl y (by simp [hy]))]
  cases hc : c.callee with
  | builtin b => rfl
  | invoke a b => rfl
  | value f =>
    simp only
    rw [h f (by unfold Call.operands; rw [hc]; simp), h2 _ (fun x hx => h x (by unfold Call.operands; rw [hc]; simp; exact .inr (by simpa using hx)))]
/-- It hangs on the operands alone .. -/
theorem EffR.congrT {slot : Nat} {o : Oper} {T T' : FrF} {h : List Blk} {e : EE} (hT : ∀ x ∈ o.op.operands, evF T' x = evF T x) (x : EffR P call0 base slot o T h e) : EffR P call0 base slot o T' h e := by
  have hA : EffA P base slot o T h e → EffA P base slot o T' h e := fun ⟨r, h1, h2⟩ => ⟨r, by rw [aop_congr hT]; exact h1, h2⟩
  unfold EffR at x ⊢
  cases hop : o.op with
  | call c =>
    rw [hop] at x hT
    simp only at x ⊢
    have hC : EffC call0 base (isTmp o) c T h e → EffC call0 base (isTmp o) c T' h e := fun ⟨f, as, v0, hh, h1, h2⟩ => ⟨f, as, v0, hh, by rw [calleeF_congr hT]; exact h1, h2⟩
    cases hc : c.callee <;> rw [hc] at x <;> first | exact hA x | exact hC x
  | «defer» c => rw [hop] at x; exact x
  | lookup t m i ok =>
    rw [hop] at x hT
    obtain ⟨b, key, kt, et, es, z, r, h1, h2, h3⟩ := x
    exact ⟨b, key, kt, et, es, z, r, by rw [hT m (by simp [Op.operands])]; exact h1, by rw [hT i (by simp [Op.operands])]; exact h2, h3⟩
  | _ => rw [hop] at x; exact hA x
theorem frz_congr {h h' : List Blk} (hh : ∀ b, b < base → h'[b]? = h[b]?) : frz base h' = frz base h := by
  funext v
  unfold frz
  cases v <;> try rfl
  rename_i b off
  simp only
  cases hb : Nat.blt b base with
  | false => rfl
  | true => rw [hh b (Nat.le_of_ble_eq_true hb)]
theorem frzA_congr {h h' : List Blk} (hh : ∀ b, b < base → h'[b]? = h[b]?) : frzA base h' = frzA base h := by
  funext v
  unfold frzA
  rw [frz_congr hh]
/-- .. and on what is read. -/
theorem EffR.congrH {slot : Nat} {o : Oper} {T : FrF} {h h' : List Blk} {e : EE} (hw : writes o = false) (hh : touches o = false ∨ ∀ b, b < base → h'[b]? = h[b]?) (x : EffR P call0 base slot o T h e) : EffR P call0 base slot o T h' e := by
  have hA : EffA P base slot o T h e → EffA P base slot o T h' e := fun ⟨r, h1, h2, h3, h4⟩ => by
    refine ⟨r, aop_H h1 fun b hb => ?_, h2, h3, h4⟩
    rcases hh with hh | hh
    · rcases h4 with h4 | h4
      · rw [hh] at h4; cases h4
      · rw [h4] at hb; cases hb
    · rcases h3 with h3 | h3
      · rw [hw] at h3; cases h3
      · exact hh b (h3 b hb)
  unfold EffR at x ⊢
  cases hop : o.op with
  | call c =>
    rw [hop] at x
    simp only at x ⊢
    have hC : (isCall o = true) → EffC call0 base (isTmp o) c T h e → EffC call0 base (isTmp o) c T h' e := by
      rintro hcl ⟨f, as, v0, hh', h1, h2⟩
      have hx : ∀ b, b < base → h'[b]? = h[b]? := by
        rcases hh with hh | hh
        · unfold touches at hh; simp [hcl] at hh
        · exact hh
      refine ⟨f, as, v0, hh', h1, ?_⟩
      rcases h2 with h2 | h2 | h2
      · exact .inl h2
      · have : writes o = true := by unfold writes; rw [h2.1]; rfl
        rw [hw] at this; cases this
      · rw [← frzA_congr hx] at h2; exact .inr (.inr h2)
    cases hc : c.callee with
    | builtin b => rw [hc] at x; exact hA x
    | value g => rw [hc] at x; exact hC (by unfold isCall; rw [hop]; simp only; rw [hc]) x
    | invoke g y => rw [hc] at x; exact hC (by unfold isCall; rw [hop]; simp only; rw [hc]) x
  | «defer» c => rw [hop] at x; exact x
  | lookup t m i ok =>
    rw [hop] at x
    obtain ⟨b, key, kt, et, es, z, r, h1, h2, h3, h4, h5, h6, h7, h8, h9⟩ := x
    refine ⟨b, key, kt, et, es, z, r, h1, h2, h3, ?_, h5, h6, h7, h8, h9⟩
    rcases hh with hh | hh
    · unfold touches at hh; rw [hop] at hh; simp at hh
    · rw [hh b h8]; exact h4
  | _ => rw [hop] at x; exact hA x
theorem EffR.wr {slot : Nat} {o : Oper} {T : FrF} {h : List Blk} {e : EE} (hw : writes o = false) (x : EffR P call0 base slot o T h e) : e.wr = [] ∨ (allocs o = true ∧ ∃ b, e.wr = [(slot, b)]) := by
  have hA : EffA P base slot o T h e → e.wr = [] ∨ (allocs o = true ∧ ∃ b, e.wr = [(slot, b)]) := fun ⟨r, h1, h2, _⟩ => by subst h2; exact aop_wr h1 hw
  unfold EffR at x
  cases hop : o.op with
  | call c =>
    rw [hop] at x
    simp only at x
    have hC : EffC call0 base (isTmp o) c T h e → e.wr = [] := by
      rintro ⟨f, as, v0, hh, h1, h2 | h2 | h2⟩
      · rw [h2.2.2.2]
      · have : writes o = true := by unfold writes; rw [h2.1]; rfl
        rw [hw] at this; cases this
      · rw [h2.2.2.2]
    cases hc : c.callee <;> rw [hc] at x <;> first | exact hA x | exact .inl (hC x)
  | «defer» c => rw [hop] at x; exact x.elim
  | lookup t m i ok =>
    rw [hop] at x
    obtain ⟨b, key, kt, et, es, z, r, h1, h2, h3, h4, h5, h6, h7, h8, h9⟩ := x
    subst h9; exact .inl rfl
  | _ => rw [hop] at x; exact hA x
theorem EffR.wr_quiet {slot : Nat} {o : Oper} {T : FrF} {h : List Blk} {e : EE} (hq : touches o = false) (x : EffR P call0 base slot o T h e) : e.wr = [] := by
  have hw : writes o = false := by unfold touches at hq; simp only [Bool.or_eq_false_iff] at hq; exact hq.1.1.1
  have ha : allocs o = false := by unfold touches at hq; simp only [Bool.or_eq_false_iff] at hq; exact hq.1.1.2
  rcases x.wr hw with h1 | ⟨h1, _⟩
  · exact h1
  · rw [ha] at h1; cases h1

theorem slotAt_lt {i j : Nat} (hij : i < j) {o : Oper} (ho : ops[i]? = some o) (ha : allocs o = true) : slotAt ops base i < slotAt ops base j := by
  unfold slotAt
  have e1 : ops.toList.take j = ops.toList.take i ++ (ops.toList.drop i).take (j - i) := by
    rw [← List.take_add]; congr 1; omega
  rw [e1, List.filter_append, List.length_append]
  have e2 : (ops.toList.drop i).take (j - i) = o :: ((ops.toList.drop i).take (j - i)).tail := by
    have hlt : i < ops.toList.length := by
      rcases Nat.lt_or_ge i ops.size with h' | h'
      · simpa using h'
      · simp [h'] at ho
    obtain ⟨m, hm⟩ : ∃ m, j - i = m + 1 := ⟨j - i - 1, by omega⟩
    rw [hm, List.drop_eq_getElem_cons hlt, List.take_succ_cons, List.tail_cons]
    congr 1
    rw [Array.getElem?_eq_getElem (by simpa using hlt)] at ho
    simpa using Option.some.inj ho
  rw [e2, List.filter_cons]
  simp [ha]
theorem slotAt_ne {i j : Nat} (hij : i ≠ j) {oi oj : Oper} (hi : ops[i]? = some oi) (hj : ops[j]? = some oj) (hai : allocs oi = true) (haj : allocs oj = true) : slotAt ops base i ≠ slotAt ops base j := by
  rcases Nat.lt_or_gt_of_ne hij with h | h
  · exact Nat.ne_of_lt (slotAt_lt h hi hai)
  · exact Nat.ne_of_gt (slotAt_lt h hj haj)
theorem slotAt_bound {i : Nat} {o : Oper} (hi : ops[i]? = some o) (ha : allocs o = true) : slotAt ops base i < base + (ops.toList.filter allocs).length := by
  have hlt : i < ops.size := by
    rcases Nat.lt_or_ge i ops.size with h' | h'
    · exact h'
    · simp [h'] at hi
  have := slotAt_lt (base := base) (ops := ops) (j := ops.size) hlt hi ha
  unfold slotAt at this ⊢
  have e3 : ops.toList.take ops.size = ops.toList := List.take_of_length_le (by simp)
  rw [e3] at this
  exact this
theorem slotAt_base (i : Nat) : base ≤ slotAt ops base i := Nat.le_add_right _ _

theorem evF_put {T : FrF} {o oi : Oper} {v : AV} {x : Operand} (h : ∀ d, oi.dst = some d → d ∉ o.looksAt ops) (hx : x ∈ o.op.operands) : evF (putF T oi.dst v) x = evF T x := by
  refine evF_congr fun d hd => ?_
  cases hdst : oi.dst with
  | none => rfl
  | some d' =>
    unfold putF
    simp only
    rw [if_neg]
    intro e
    subst e
    refine h d' hdst ?_
    subst hd
    exact List.mem_append_left _ (List.mem_filterMap.2 ⟨.tmp d', by simpa using hx, rfl⟩)
theorem wantF_put {T : FrF} {o oi : Oper} {v : AV} (h : ∀ d, oi.dst = some d → d ∉ o.looksAt ops) : wantF ops (putF T oi.dst v) o = wantF ops T o := by
  unfold wantF
  cases hg : o.guard with
  | none => rfl
  | some g =>
    obtain ⟨j, want⟩ := g
    simp only
    cases hd : (ops[j]?).bind (·.dst) with
    | none => rfl
    | some d =>
      simp only
      have : putF T oi.dst v d = T d := by
        cases hdst : oi.dst with
        | none => rfl
        | some d' =>
          unfold putF
          simp only
          rw [if_neg]
          intro e
          subst e
          refine h d' hdst ?_
          unfold Oper.looksAt
          refine List.mem_append_right _ ?_
          rw [hg]
          simp [hd]
      rw [this]
theorem putF_comm {T : FrF} {x y : Option Tmp} (v u : AV) (h : ∀ d, x = some d → y ≠ some d) : putF (putF T x v) y u = putF (putF T y u) x v := by
  cases x with
  | none => rfl
  | some d =>
    cases y with
    | none => rfl
    | some d' =>
      have hne : d ≠ d' := fun e => h d rfl (by rw [e])
      funext j
      simp only [putF]
      by_cases h1 : d = j
      · subst h1
        rw [if_neg (Ne.symm hne), if_pos rfl, if_pos rfl]
        simp [Ne.symm hne]
      · by_cases h2 : d' = j
        · subst h2
          simp [hne, h1]
        · simp [h1, h2]

def keys (l : List (Nat × Blk)) : List Nat := l.map (·.1)
theorem applyWr_other : ∀ (l : List (Nat × Blk)) (h : List Blk), (∀ k ∈ keys l, k < h.length) → ∀ b, b ∉ keys l → (applyWr h l)[b]? = h[b]?
  | [], h, _, b, _ => rfl
  | (k, x) :: l, h, hk, b, hb => by
    have hk0 : k < h.length := hk k (by simp [keys])
    have hl : (hset h k x).length = h.length := by rw [hset_length _ _ _ (Nat.le_of_lt hk0)]; split <;> omega
    unfold applyWr
    rw [applyWr_other l (hset h k x) (fun j hj => by rw [hl]; exact hk j (by simp [keys] at hj ⊢; exact .inr hj)) b (fun h' => hb (by simp [keys] at h' ⊢; exact .inr h')), hset_get _ _ _ _ (Nat.le_of_lt hk0), if_neg]
    intro e; exact hb (by simp [keys, e])
theorem hset_comm {h : List Blk} {a b : Nat} (hab : a ≠ b) (ha : a < h.length) (hb : b < h.length) (x y : Blk) : hset (hset h a x) b y = hset (hset h b y) a x := by
  have l1 : (hset h a x).length = h.length := by rw [hset_length _ _ _ (Nat.le_of_lt ha)]; split <;> omega
  have l2 : (hset h b y).length = h.length := by rw [hset_length _ _ _ (Nat.le_of_lt hb)]; split <;> omega
  apply List.ext_getElem?
  intro i
  rw [hset_get _ _ _ _ (by omega), hset_get _ _ _ _ (by omega), hset_get _ _ _ _ (by omega), hset_get _ _ _ _ (by omega)]
  by_cases e1 : i = a
  · rw [if_pos e1, if_neg (fun e2 => hab (e1.symm.trans e2)), if_pos e1]
  · rw [if_neg e1, if_neg e1]
theorem hset_len {h : List Blk} {a : Nat} (ha : a < h.length) (x : Blk) : (hset h a x).length = h.length := by rw [hset_length _ _ _ (Nat.le_of_lt ha)]; split <;> omega
theorem applyWr_hset : ∀ (l : List (Nat × Blk)) (h : List Blk) (a : Nat) (x : Blk), a < h.length → (∀ k ∈ keys l, k < h.length) → a ∉ keys l → applyWr (hset h a x) l = hset (applyWr h l) a x
  | [], h, a, x, _, _, _ => rfl
  | (k, y) :: l, h, a, x, ha, hk, hn => by
    have hk0 : k < h.length := hk k (by simp [keys])
    have hka : a ≠ k := fun e => hn (by simp [keys, e])
    unfold applyWr
    rw [hset_comm hka ha hk0]
    exact applyWr_hset l (hset h k y) a x (by rw [hset_len hk0]; exact ha) (fun j hj => by rw [hset_len hk0]; exact hk j (by simp [keys] at hj ⊢; exact .inr hj)) (fun h' => hn (by simp [keys] at h' ⊢; exact .inr h'))
theorem applyWr_len : ∀ (l : List (Nat × Blk)) (h : List Blk), (∀ k ∈ keys l, k < h.length) → (applyWr h l).length = h.length
  | [], h, _ => rfl
  | (k, y) :: l, h, hk => by
    have hk0 : k < h.length := hk k (by simp [keys])
    unfold applyWr
    rw [applyWr_len l (hset h k y) (fun j hj => by rw [hset_len hk0]; exact hk j (by simp [keys] at hj ⊢; exact .inr hj)), hset_len hk0]
theorem applyWr_comm : ∀ (l m : List (Nat × Blk)) (h : List Blk), (∀ k ∈ keys l, k < h.length) → (∀ k ∈ keys m, k < h.length) → (∀ k ∈ keys l, k ∉ keys m) → applyWr (applyWr h l) m = applyWr (applyWr h m) l
  | [], m, h, _, _, _ => rfl
  | (k, y) :: l, m, h, hl, hm, hd => by
    have hk0 : k < h.length := hl k (by simp [keys])
    have hkm : k ∉ keys m := hd k (by simp [keys])
    have hl' : ∀ j ∈ keys l, j < (hset h k y).length := fun j hj => by rw [hset_len hk0]; exact hl j (by simp [keys] at hj ⊢; exact .inr hj)
    show applyWr (applyWr (hset h k y) l) m = applyWr (hset (applyWr h m) k y) l
    rw [applyWr_comm l m (hset h k y) hl' (fun j hj => by rw [hset_len hk0]; exact hm j hj) (fun j hj => hd j (by simp [keys] at hj ⊢; exact .inr hj)), applyWr_hset m h k y hk0 hm hkm]
/-- What they touch does not meet. -/
def Disj (e f : EE) : Prop := (∀ b ∈ keys e.wr, b ∉ f.rd ∧ b ∉ keys f.wr) ∧ ∀ b ∈ keys f.wr, b ∉ e.rd
theorem disj_spec {e f : EE} (h : disj (fpOf e) (fpOf f) = true) : Disj e f := by
  unfold disj fpOf at h
  simp only [Bool.and_eq_true, List.all_eq_true, Bool.not_eq_true'] at h
  have key : ∀ (l : List Nat) (b : Nat), l.any (Nat.beq b) = false → b ∉ l := fun l b hb hm => by
    rw [List.any_eq_false] at hb
    exact hb b hm (by simp)
  exact ⟨fun b hb => ⟨key _ _ (h.1 b hb).1, key _ _ (h.1 b hb).2⟩, fun b hb => key _ _ (h.2 b hb)⟩
theorem EffR.congrRd {slot : Nat} {o : Oper} {T : FrF} {h h' : List Blk} {e : EE} (hc : isCall o = false) (hh : ∀ b ∈ e.rd, h'[b]? = h[b]?) (x : EffR P call0 base slot o T h e) : EffR P call0 base slot o T h' e := by
  have hA : EffA P base slot o T h e → EffA P base slot o T h' e := fun ⟨r, h1, h2, h3, h4⟩ => by
    subst h2
    exact ⟨r, aop_H h1 hh, rfl, h3, h4⟩
  unfold EffR at x ⊢
  cases hop : o.op with
  | call c =>
    rw [hop] at x
    simp only at x ⊢
    cases hcc : c.callee with
    | builtin b => rw [hcc] at x; exact hA x
    | value g => unfold isCall at hc; rw [hop] at hc; simp only at hc; rw [hcc] at hc; cases hc
    | invoke g y => unfold isCall at hc; rw [hop] at hc; simp only at hc; rw [hcc] at hc; cases hc
  | «defer» c => rw [hop] at x; exact x
  | lookup t m i ok =>
    rw [hop] at x
    obtain ⟨b, key, kt, et, es, z, r, h1, h2, h3, h4, h5, h6, h7, h8, h9⟩ := x
    subst h9
    exact ⟨b, key, kt, et, es, z, r, h1, h2, h3, by rw [hh b (by simp)]; exact h4, h5, h6, h7, h8, rfl⟩
  | _ => rw [hop] at x; exact hA x
theorem EffR.keys {i : Nat} {o : Oper} (hi : ops[i]? = some o) {T : FrF} {h : List Blk} (hL : base + (ops.toList.filter allocs).length ≤ h.length) {e : EE} (hc : isCall o = false) (x : EffR P call0 base (slotAt ops base i) o T h e) : ∀ b ∈ keys e.wr, b < h.length := by
  have hA : EffA P base (slotAt ops base i) o T h e → ∀ b ∈ Ab.keys e.wr, b < h.length := fun ⟨r, h1, h2, _⟩ b hb => by
    subst h2
    rcases aop_keys h1 b hb with ⟨rfl, ha⟩ | hs
    · exact Nat.lt_of_lt_of_le (slotAt_bound hi ha) hL
    · rcases Nat.lt_or_ge b h.length with h' | h'
      · exact h'
      · simp [List.getElem?_eq_none h'] at hs
  unfold EffR at x
  cases hop : o.op with
  | call c =>
    rw [hop] at x
    simp only at x
    cases hcc : c.callee with
    | builtin b => rw [hcc] at x; exact hA x
    | value g => unfold isCall at hc; rw [hop] at hc; simp only at hc; rw [hcc] at hc; cases hc
    | invoke g y => unfold isCall at hc; rw [hop] at hc; simp only at hc; rw [hcc] at hc; cases hc
  | «defer» c => rw [hop] at x; exact x.elim
  | lookup t m i ok =>
    rw [hop] at x
    obtain ⟨b, key, kt, et, es, z, r, h1, h2, h3, h4, h5, h6, h7, h8, h9⟩ := x
    subst h9
    intro b hb; cases hb
  | _ => rw [hop] at x; exact hA x

/-- Of two steps either may come first. -/
theorem step_comm {i j : Nat} (hij : i ≠ j) {oi oj : Oper} (hi : ops[i]? = some oi) (hj : ops[j]? = some oj) (hap : oi.apart ops oj = true)
    {T : FrF} {h : List Blk} (hL : base + (ops.toList.filter allocs).length ≤ h.length) {ei ej : EE}
    (hmem : ¬ (touches oi = true ∧ touches oj = true ∧ (writes oi = true ∨ writes oj = true)) ∨ (isCall oi = false ∧ isCall oj = false ∧ Disj ei ej))
    (si : StepOK P call0 ops base i T h ei) (sj : StepOK P call0 ops base j (putF T oi.dst ei.v) (applyWr h ei.wr) ej) :
    StepOK P call0 ops base j T h ej ∧ StepOK P call0 ops base i (putF T oj.dst ej.v) (applyWr h ej.wr) ei ∧
      putF (putF T oi.dst ei.v) oj.dst ej.v = putF (putF T oj.dst ej.v) oi.dst ei.v ∧ applyWr (applyWr h ei.wr) ej.wr = applyWr (applyWr h ej.wr) ei.wr := by
  obtain ⟨a1, a2, a3⟩ := Oper.apart_spec hap
  obtain ⟨wi, gi1, gi2, gi3⟩ := si oi hi
  obtain ⟨wj, gj1, gj2, gj3⟩ := sj oj hj
  rw [wantF_put a1] at gj1
  have tj : ∀ {h : List Blk} {e : EE} {v : AV}, EffR P call0 base (slotAt ops base j) oj (putF T oi.dst v) h e → EffR P call0 base (slotAt ops base j) oj T h e := fun x => x.congrT fun y hy => (evF_put a1 hy).symm
  have ti : ∀ {h : List Blk} {e : EE} {v : AV}, EffR P call0 base (slotAt ops base i) oi T h e → EffR P call0 base (slotAt ops base i) oi (putF T oj.dst v) h e := fun x => x.congrT fun y hy => evF_put a3 hy
  have hTc := putF_comm (T := T) ei.v ej.v a2
  -- one of them is skipped, or quiet, or neither writes
  have low : ∀ {e : EE} {s : Nat}, base ≤ s → s ≤ h.length → (e.wr = [] ∨ ∃ b, e.wr = [(s, b)]) → ∀ b, b < base → (applyWr h e.wr)[b]? = h[b]? := by
    intro e s hs hl he b hb
    rcases he with he | ⟨x, he⟩
    · rw [he]; rfl
    · rw [he, applyWr_one, hset_get h s b x hl, if_neg (by omega)]
  cases wi with
  | false =>
    have hei := gi3 rfl
    subst hei
    refine ⟨fun o ho => ?_, fun o ho => ?_, hTc, rfl⟩
    · rw [hj] at ho; cases ho; exact ⟨wj, gj1, fun hw => tj (gj2 hw), gj3⟩
    · rw [hi] at ho; cases ho; exact ⟨false, by rw [wantF_put a3]; exact gi1, fun h => (by cases h), fun _ => rfl⟩
  | true =>
    have xi := gi2 rfl
    cases wj with
    | false =>
      have hej := gj3 rfl
      subst hej
      refine ⟨fun o ho => ?_, fun o ho => ?_, hTc, rfl⟩
      · rw [hj] at ho; cases ho; exact ⟨false, gj1, fun h => (by cases h), fun _ => rfl⟩
      · rw [hi] at ho; cases ho; exact ⟨true, by rw [wantF_put a3]; exact gi1, fun _ => ti xi, fun h => (by cases h)⟩
    | true =>
      have xj := tj (gj2 rfl)
      have done : EffR P call0 base (slotAt ops base j) oj T h ej → EffR P call0 base (slotAt ops base i) oi T (applyWr h ej.wr) ei → applyWr (applyWr h ei.wr) ej.wr = applyWr (applyWr h ej.wr) ei.wr →
          StepOK P call0 ops base j T h ej ∧ StepOK P call0 ops base i (putF T oj.dst ej.v) (applyWr h ej.wr) ei ∧
      putF (putF T oi.dst ei.v) oj.dst ej.v = putF (putF T oj.dst ej.v) oi.dst ei.v ∧ applyWr (applyWr h ei.wr) ej.wr = applyWr (applyWr h ej.wr) ei.wr := by
        intro d1 d2 d3
        refine ⟨fun o ho => ?_, fun o ho => ?_, hTc, d3⟩
        · rw [hj] at ho; cases ho; exact ⟨true, gj1, fun _ => d1, fun h => (by cases h)⟩
        · rw [hi] at ho; cases ho; exact ⟨true, by rw [wantF_put a3]; exact gi1, fun _ => ti d2, fun h => (by cases h)⟩
      cases hti : touches oi with
      | false =>
        have hwi := xi.wr_quiet hti
        have hwri : writes oi = false := by unfold touches at hti; simp only [Bool.or_eq_false_iff] at hti; exact hti.1.1.1
        rw [hwi, applyWr_nil] at xj
        exact done xj (xi.congrH hwri (.inl hti)) (by rw [hwi]; rfl)
      | true =>
        cases htj : touches oj with
        | false =>
          have hwj := xj.wr_quiet htj
          have hwrj : writes oj = false := by unfold touches at htj; simp only [Bool.or_eq_false_iff] at htj; exact htj.1.1.1
          exact done (xj.congrH hwrj (.inl htj)) (by rw [hwj]; exact xi) (by rw [hwj]; rfl)
        | true =>
          rcases hmem with hmem | ⟨ci, cj, hdis⟩
          case inr =>
            have ki := xi.keys hi hL ci
            have xj0 : EffR P call0 base (slotAt ops base j) oj T h ej := xj.congrRd cj fun b hb => (applyWr_other _ _ ki b (fun hk => (hdis.1 b hk).1 hb)).symm
            have kj := xj0.keys hj hL cj
            exact done xj0 (xi.congrRd ci fun b hb => applyWr_other _ _ kj b (fun hk => hdis.2 b hk hb)) (applyWr_comm _ _ _ ki kj fun k hk => (hdis.1 k hk).2)
          have hwri : writes oi = false := by
            cases hh : writes oi with
            | false => rfl
            | true => exact absurd ⟨hti, htj, .inl hh⟩ hmem
          have hwrj : writes oj = false := by
            cases hh : writes oj with
            | false => rfl
            | true => exact absurd ⟨hti, htj, .inr hh⟩ hmem
          have ri := xi.wr hwri
          have rj := xj.wr hwrj
          have li : ∀ b, b < base → (applyWr h ei.wr)[b]? = h[b]? := by
            rcases ri with ri | ⟨ha, b, ri⟩
            · exact low (Nat.le_refl base) (by omega) (.inl ri)
            · exact low (slotAt_base i) (by have := slotAt_bound (base := base) hi ha; omega) (.inr ⟨b, ri⟩)
          have lj : ∀ b, b < base → (applyWr h ej.wr)[b]? = h[b]? := by
            rcases rj with rj | ⟨ha, b, rj⟩
            · exact low (Nat.le_refl base) (by omega) (.inl rj)
            · exact low (slotAt_base j) (by have := slotAt_bound (base := base) hj ha; omega) (.inr ⟨b, rj⟩)
          refine done (xj.congrH hwrj (.inr fun b hb => (li b hb).symm)) (xi.congrH hwri (.inr lj)) ?_
          rcases ri with ri | ⟨hai, bi, ri⟩
          · rw [ri]; rfl
          · rcases rj with rj | ⟨haj, bj, rj⟩
            · rw [rj]; rfl
            · rw [ri, rj]
              simp only [applyWr_one]
              have b1 := slotAt_bound (base := base) hi hai
              have b2 := slotAt_bound (base := base) hj haj
              have hne := slotAt_ne (base := base) hij hi hj hai haj
              apply List.ext_getElem?
              intro q
              have l1 : (hset h (slotAt ops base i) bi).length = h.length := by rw [hset_length _ _ _ (by omega)]; split <;> omega
              have l2 : (hset h (slotAt ops base j) bj).length = h.length := by rw [hset_length _ _ _ (by omega)]; split <;> omega
              rw [hset_get _ _ _ _ (by omega), hset_get _ _ _ _ (by omega), hset_get _ _ _ _ (by omega), hset_get _ _ _ _ (by omega)]
              by_cases e1 : q = slotAt ops base i
              · rw [if_pos e1, if_neg (fun e2 => hne (e1.symm.trans e2)), if_pos e1]
              · rw [if_neg e1, if_neg e1]
end
end Go.Proofs.Ytdhlbfhfenomcaa.Ab
