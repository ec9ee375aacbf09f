/- A region that draws its order, last part: the theorem. -/
import Derived.Test.YtdhlbfhfenomcaaAb13
namespace Go.Proofs.Ytdhlbfhfenomcaa.Ab
open Go Go.RowKit
set_option linter.unusedVariables false
set_option linter.unusedSimpArgs false

section
variable {P : Program} {call0 : CallC (AV × List Blk)} {ops : Array Oper} {base : Nat}
def dstAt (ops : Array Oper) (i : Nat) : Option Tmp := (ops[i]?).bind (·.dst)
/-- Whatever comes up, all comes to one end. -/
def AAny (P : Program) (call0 : CallC (AV × List Blk)) (ops : Array Oper) (base : Nat) (E : Nat → EE) (Tf : FrF) (hf : List Blk) : Nat → Array Bool → FrF → List Blk → Prop
  | 0, listed, T, h => Region.ready .any ops listed = [] ∧ T = Tf ∧ h = hf
  | n + 1, listed, T, h => (Region.ready .any ops listed = [] → T = Tf ∧ h = hf) ∧
      ∀ i ∈ Region.ready .any ops listed, StepOK P call0 ops base i T h (E i) ∧ AAny P call0 ops base E Tf hf n (listed.setIfInBounds i true) (putF T (dstAt ops i) (E i).v) (applyWr h (E i).wr)

/-- One operation lies ahead of another in every order. -/
inductive Dep (ops : Array Oper) (i : Nat) : Nat → Prop where
  | one (j : Nat) (oj : Oper) (e : Edge) : ops[j]? = some oj → e ∈ oj.after → Region.binds .any e = true → e.on = i → Dep ops i j
  | step (j : Nat) (oj : Oper) (e : Edge) : ops[j]? = some oj → e ∈ oj.after → Region.binds .any e = true → Dep ops i e.on → Dep ops i j
/-- With each operation those ahead of it are listed. -/
def Down (ops : Array Oper) (listed : Array Bool) : Prop := ∀ j oj, ops[j]? = some oj → listed.getD j false = true → ∀ e ∈ oj.after, Region.binds .any e = true → listed.getD e.on false = true
theorem Dep.unlisted {i : Nat} {listed : Array Bool} (hd : Down ops listed) (hi : listed.getD i false = false) {j : Nat} (h : Dep ops i j) : listed.getD j false = false ∧ j ∉ Region.ready .any ops listed := by
  have key : ∀ (j : Nat) (oj : Oper) (e : Edge), ops[j]? = some oj → e ∈ oj.after → Region.binds .any e = true → listed.getD e.on false = false → listed.getD j false = false ∧ j ∉ Region.ready .any ops listed := by
    intro j oj e hj he hb h0
    refine ⟨?_, fun hr => ?_⟩
    · cases hl : listed.getD j false with
      | false => rfl
      | true => rw [hd j oj hj hl e he hb] at h0; cases h0
    · obtain ⟨_, o, ho, hall⟩ := mem_ready.1 hr
      rw [hj] at ho; cases ho
      rw [hall e he hb] at h0; cases h0
  induction h with
  | one j oj e hj he hb hx => exact key j oj e hj he hb (by rw [hx]; exact hi)
  | step j oj e hj he hb _ ih => exact key j oj e hj he hb ih.1
theorem Down.list {listed : Array Bool} (hd : Down ops listed) {i : Nat} (hi : i ∈ Region.ready .any ops listed) : Down ops (listed.setIfInBounds i true) := by
  intro j oj hj hl e he hb
  by_cases e1 : i = j
  · subst e1
    obtain ⟨_, o, ho, hall⟩ := mem_ready.1 hi
    rw [hj] at ho; cases ho
    exact getD_set_true (hall e he hb)
  · rw [getD_set_ne false e1] at hl
    exact getD_set_true (hd j oj hj hl e he hb)
theorem ready_unlisted {i : Nat} {listed : Array Bool} (hi : i ∈ Region.ready .any ops listed) : listed.getD i false = false := by
  have h := (mem_ready.1 hi).1
  rcases Nat.lt_or_ge i listed.size with h' | h'
  · simp [h'] at h ⊢; exact h
  · simp [Array.getElem?_eq_none h']

theorem ahead_dep {i : Nat} {ms : List Nat} {oj : Oper} {j : Nat} (hj : ops[j]? = some oj) (hms : ∀ k, Nat.testBit (ms.getD k 0) i = true → Dep ops i k) (h : Nat.testBit (ahead ms oj) i = true) : Dep ops i j := by
  have key : ∀ (l : List Edge) (m : Nat), (∀ e ∈ l, e ∈ oj.after) → (Nat.testBit m i = true → Dep ops i j) → Nat.testBit (l.foldl (fun m e => if Region.binds .any e then m ||| 2 ^ e.on ||| ms.getD e.on 0 else m) m) i = true → Dep ops i j := by
    intro l
    induction l with
    | nil => intro m _ hm h; exact hm h
    | cons e l ih =>
      intro m hl hm h
      refine ih _ (fun x hx => hl x (by simp [hx])) (fun h2 => ?_) h
      dsimp only at h2
      split at h2
      · rename_i hb
        rw [Nat.testBit_or, Nat.testBit_or, Bool.or_eq_true, Bool.or_eq_true, Nat.testBit_two_pow] at h2
        rcases h2 with (h2 | h2) | h2
        · exact hm h2
        · exact .one j oj e hj (hl e (by simp)) hb (by simpa using h2)
        · exact .step j oj e hj (hl e (by simp)) hb (hms _ h2)
      · exact hm h2
  exact key oj.after.toList 0 (fun e he => by simpa using he) (fun h => by simp at h) h
theorem aheads_dep {i : Nat} : ∀ (l : List Oper) (ms : List Nat), (∀ j, l[j]? = ops[ms.length + j]?) → (∀ k, Nat.testBit (ms.getD k 0) i = true → Dep ops i k) → ∀ k, Nat.testBit ((aheads l ms).getD k 0) i = true → Dep ops i k := by
  intro l
  induction l with
  | nil => intro ms _ hms k h; exact hms k h
  | cons o l ih =>
    intro ms hl hms k h
    have h0 : ops[ms.length]? = some o := by simpa using (hl 0).symm
    refine ih (ms ++ [ahead ms o]) (fun j => ?_) (fun k hk => ?_) k h
    · have := hl (j + 1)
      simp only [List.getElem?_cons_succ] at this
      rw [this]
      simp only [List.length_append, List.length_cons, List.length_nil]
      congr 1; omega
    · rcases Nat.lt_trichotomy k ms.length with h1 | h1 | h1
      · rw [List.getD_eq_getElem?_getD, List.getElem?_append_left h1, ← List.getD_eq_getElem?_getD] at hk; exact hms k hk
      · subst h1
        rw [List.getD_eq_getElem?_getD, List.getElem?_append_right (Nat.le_refl _)] at hk
        simp at hk
        exact ahead_dep h0 hms hk
      · rw [List.getD_eq_getElem?_getD, List.getElem?_eq_none (by simp; omega)] at hk
        simp at hk

theorem AAny_first {E : Nat → EE} {Tf : FrF} {hf : List Blk} {i : Nat} {oi : Oper} (hi : ops[i]? = some oi) :
    ∀ (fuel : Nat) (listed : Array Bool) (T : FrF) (h : List Blk), base + (ops.toList.filter allocs).length ≤ h.length → Down ops listed →
      (∀ j oj, ops[j]? = some oj → j ≠ i → listed.getD j true = false → (∀ e ∈ oj.after, Region.binds .any e = true → e.on ≠ i) → ¬ Dep ops i j → oi.apart ops oj = true ∧ (¬ (touches oi = true ∧ touches oj = true ∧ (writes oi = true ∨ writes oj = true)) ∨ (isCall oi = false ∧ isCall oj = false ∧ Disj (E i) (E j)))) →
      i ∈ Region.ready .any ops listed → StepOK P call0 ops base i T h (E i) →
      AAny P call0 ops base E Tf hf fuel (listed.setIfInBounds i true) (putF T oi.dst (E i).v) (applyWr h (E i).wr) → AAny P call0 ops base E Tf hf (fuel + 1) listed T h := by
  have hdi : dstAt ops i = oi.dst := by unfold dstAt; rw [hi]; rfl
  intro fuel
  induction fuel with
  | zero =>
    intro listed T h hL _ _ hr hy H
    refine ⟨fun h => (by rw [h] at hr; cases hr), fun j hj => ?_⟩
    by_cases hji : j = i
    · subst hji; rw [hdi]; exact ⟨hy, H⟩
    · have := ready_mono hj hji
      rw [H.1] at this
      cases this
  | succ fuel ih =>
    intro listed T h hL hdown hfree hr hy H
    refine ⟨fun h => (by rw [h] at hr; cases hr), fun j hj => ?_⟩
    by_cases hji : j = i
    · subst hji; rw [hdi]; exact ⟨hy, H⟩
    · obtain ⟨sj, Hj⟩ := H.2 j (ready_mono hj hji)
      obtain ⟨hjun, oj, hoj, hall⟩ := mem_ready.1 hj
      have hdj : dstAt ops j = oj.dst := by unfold dstAt; rw [hoj]; rfl
      have hiu := ready_unlisted hr
      have hnot : ∀ e ∈ oj.after, Region.binds .any e = true → e.on ≠ i := fun e he hb heq => by
        have h1 := hall e he hb
        rw [heq, hiu] at h1
        cases h1
      obtain ⟨f1, f2⟩ := hfree j oj hoj hji hjun hnot (fun hdep => (hdep.unlisted hdown hiu).2 hj)
      obtain ⟨c1, c2, c3, c4⟩ := step_comm (Ne.symm hji) hi hoj f1 hL f2 hy sj
      have hL' : base + (ops.toList.filter allocs).length ≤ (applyWr h (E j).wr).length := Nat.le_trans hL (applyWr_le _ _)
      have hfree' : ∀ k ok, ops[k]? = some ok → k ≠ i → (listed.setIfInBounds j true).getD k true = false →
          (∀ e ∈ ok.after, Region.binds .any e = true → e.on ≠ i) → ¬ Dep ops i k → oi.apart ops ok = true ∧ (¬ (touches oi = true ∧ touches ok = true ∧ (writes oi = true ∨ writes ok = true)) ∨ (isCall oi = false ∧ isCall ok = false ∧ Disj (E i) (E k))) := fun k ok hk hki hun hno => by
        refine hfree k ok hk hki ?_ hno
        by_cases hjk : j = k
        · subst hjk; exact hjun
        · rw [getD_set_ne true hjk] at hun; exact hun
      rw [hdj]
      refine ⟨c1, ih (listed.setIfInBounds j true) _ _ hL' (hdown.list hj) hfree' (ready_mono hr (Ne.symm hji)) c2 ?_⟩
      rw [Array.setIfInBounds_comm _ _ hji, ← c3, ← c4]
      rw [hdj] at Hj
      exact Hj

theorem AAny_lex {Tf : FrF} {hf : List Blk} (hok : drOK ops = true) (E : Nat → EE) (hE : ∀ i j, (i, j) ∈ pairs ops → ∀ oi oj, ops[i]? = some oi → ops[j]? = some oj → isCall oi = false → isCall oj = false → Disj (E i) (E j)) : ∀ (l : List Oper) (k : Nat) (listed : Array Bool) (T : FrF) (h : List Blk) (es : List EE), base + (ops.toList.filter allocs).length ≤ h.length → Down ops listed → (∀ j, l[j]? = ops[k + j]?) →
    (∀ j, j < k → listed.getD j true = true) → (∀ j, es[j]? = if j < l.length then some (E (k + j)) else none) →
    Region.lexFrom .any ops l.length k listed = true → LexR P call0 ops base l k T h es Tf hf → AAny P call0 ops base E Tf hf l.length listed T h
  | [], k, listed, T, h, es, hL, hdn, hl, hlow, hes, hB, x => by
    cases es with
    | nil => exact ⟨by simpa [Region.lexFrom] using hB, x⟩
    | cons e es => have := hes 0; simp at this
  | o :: l, k, listed, T, h, es, hL, hdn, hl, hlow, hes, hB, x => by
    have h0 : ops[k]? = some o := by simpa using (hl 0).symm
    cases es with
    | nil => have := hes 0; simp at this
    | cons e es =>
      have he : e = E k := by have := hes 0; simpa using this
      subst he
      obtain ⟨x1, x2⟩ := x
      simp only [List.length_cons, Region.lexFrom, Bool.and_eq_true] at hB
      obtain ⟨⟨hr, hfr⟩, hB'⟩ := hB
      have hkin : k ∈ Region.ready .any ops listed := by simpa using hr
      refine AAny_first h0 l.length listed T h hL hdn (fun j oj hj hne hun hno hdep => ⟨Region.free_spec h0 hfr j oj hj hne hun hno, ?_⟩) hkin x1 ?_
      · by_cases htt : touches o = true ∧ touches oj = true ∧ (writes o = true ∨ writes oj = true)
        case neg => exact .inl htt
        obtain ⟨t1, t2, t3⟩ := htt
        right
        have hkj : k < j := by
          rcases Nat.lt_or_ge j k with h' | h'
          · rw [hlow j h'] at hun; cases hun
          · omega
        have hmj : (oj, j) ∈ ops.toList.zipIdx := by
          rw [List.mem_iff_getElem?]
          exact ⟨j, by simp [hj]⟩
        have hmk : (o, k) ∈ ops.toList.zipIdx := by
          rw [List.mem_iff_getElem?]
          exact ⟨k, by simp [h0]⟩
        have hno' : Nat.testBit ((aheads ops.toList []).getD j 0) k = false := by
          cases hb : Nat.testBit ((aheads ops.toList []).getD j 0) k with
          | false => rfl
          | true => exact absurd (aheads_dep ops.toList [] (by simp) (fun k hk => by simp at hk) j hb) hdep
        have hloose : loose (aheads ops.toList []) oj o j k = true := by
          unfold loose
          have e1 : Nat.blt k j = true := by simp [Nat.blt]; exact hkj
          rw [e1, t1, t2, hno']
          rcases t3 with t3 | t3 <;> simp [t3]
        have hck : isCall oj = false ∧ isCall o = false := by
          unfold drOK at hok
          simp only [Bool.and_eq_true, List.all_eq_true] at hok
          have := hok.2 _ hmj _ hmk
          simp only [hloose, Bool.not_true, Bool.false_or, Bool.and_eq_true, Bool.not_eq_true'] at this
          exact this
        refine ⟨hck.2, hck.1, hE k j ?_ o oj h0 hj hck.2 hck.1⟩
        unfold pairs
        simp only [List.mem_flatten, List.mem_map]
        refine ⟨_, ⟨(oj, j), hmj, rfl⟩, ?_⟩
        simp only [t2, if_true, List.mem_map, List.mem_filter]
        exact ⟨(o, k), ⟨hmk, hloose⟩, rfl⟩
      · have hlow' : ∀ j, j < k + 1 → (listed.setIfInBounds k true).getD j true = true := fun j hj => by
          by_cases e : k = j
          · subst e; simp
          · rw [getD_set_ne true e]; exact hlow j (by omega)
        refine AAny_lex hok E hE l (k + 1) _ _ _ es (Nat.le_trans hL (applyWr_le _ _)) (hdn.list hkin) (fun j => by have := hl (j + 1); simpa [Nat.add_assoc, Nat.add_comm 1 j] using this) hlow' (fun j => ?_) hB' x2
        have := hes (j + 1)
        simpa [Nat.add_assoc, Nat.add_comm 1 j] using this
end
end Go.Proofs.Ytdhlbfhfenomcaa.Ab
