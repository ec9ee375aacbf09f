/- '==' and '!=' on structs and arrays, cell by cell; arithmetic. -/
import Derived.Test.YtdhlbfhfenomcaaAb3
import Derived.Laws.StructEq
import Derived.ChangeKeysEq
namespace Go.Proofs.Ytdhlbfhfenomcaa.Ab
open Go Go.RowKit
set_option linter.unusedVariables false
set_option linter.unusedSimpArgs false

/-- Cells compared one by one. -/
def eqV : List Bool → List Value → List Value → Option Bool
  | [], [], [] => some true
  | true :: ks, .int k x :: l, .int k' y :: m => if k = k' then match eqV ks l m with
      | some r => some (x == y && r)
      | none => none
    else none
  | false :: ks, .bool x :: l, .bool y :: m => match eqV ks l m with
    | some r => some (x == y && r)
    | none => none
  | _, _, _ => none
theorem eqV_length {ks : List Bool} {l m : List Value} : ∀ {b : Bool}, eqV ks l m = some b → l.length = ks.length ∧ m.length = ks.length := by
  fun_induction eqV ks l m <;> intro b h <;> simp_all
theorem eqV_append {ks : List Bool} : ∀ {ks' : List Bool} {l m l' m' : List Value} {b : Bool}, l.length = ks.length → m.length = ks.length → eqV (ks ++ ks') (l ++ l') (m ++ m') = some b →
    ∃ x y, eqV ks l m = some x ∧ eqV ks' l' m' = some y ∧ b = (x && y) := by
  induction ks with
  | nil =>
    intro ks' l m l' m' b hl hm h
    have : l = [] := by simpa using hl
    subst this
    have : m = [] := by simpa using hm
    subst this
    exact ⟨true, b, rfl, h, by simp⟩
  | cons k ks ih =>
    intro ks' l m l' m' b hl hm h
    cases l with
    | nil => simp at hl
    | cons a l =>
      cases m with
      | nil => simp at hm
      | cons c m =>
        simp only [List.length_cons, Nat.add_right_cancel_iff] at hl hm
        simp only [List.cons_append] at h
        cases k <;> cases a <;> cases c <;> simp [eqV] at h
        · split at h
          · rename_i r hr
            obtain ⟨x, y, h1, h2, h3⟩ := ih hl hm hr
            cases h
            exact ⟨_, y, by simp [eqV, h1]; rfl, h2, by rw [h3, Bool.and_assoc]⟩
          · cases h
        · obtain ⟨he, h⟩ := h
          split at h
          · rename_i r hr
            obtain ⟨x, y, h1, h2, h3⟩ := ih hl hm hr
            cases h
            exact ⟨_, y, by simp [eqV, h1, he]; rfl, h2, by rw [h3, Bool.and_assoc]⟩
          · cases h
theorem eqK_eqV {K : Ks} {φ : Ph} {ks : List Bool} {l m : List AV} : ∀ {b : Bool}, eqK ks l m = some b → ∀ {cs ds : List Value}, DenL K φ l cs → DenL K φ m ds → eqV ks cs ds = some b := by
  have hd : ∀ {a : AV} {l : List AV} {cs : List Value}, DenL K φ (a :: l) cs → ∃ c cs', cs = c :: cs' ∧ Den K φ a c ∧ DenL K φ l cs' := by
    intro a l cs h
    cases cs with
    | nil => simp [DenL] at h
    | cons c cs => exact ⟨c, cs, rfl, h.2 0 _ _ rfl rfl, by have := h.1; simpa using this, fun i u v hu hv => h.2 (i + 1) u v (by simpa using hu) (by simpa using hv)⟩
  have hn : ∀ {cs : List Value}, DenL K φ [] cs → cs = [] := fun h => by have := h.1; simpa using this.symm
  fun_induction eqK ks l m with
  | case1 => intro b h cs ds hc hd'; cases h; rw [hn hc, hn hd']; rfl
  | case2 ks k x l y m r hr ih =>
    intro b h cs ds hc hd'
    obtain ⟨c, cs, rfl, c0, hc2⟩ := hd hc
    obtain ⟨d, ds, rfl, d0, hd2⟩ := hd hd'
    cases c0; cases d0; cases h
    simp [eqV, ih hr hc2 hd2]
  | case5 ks x l y m r hr ih =>
    intro b h cs ds hc hd'
    obtain ⟨c, cs, rfl, c0, hc2⟩ := hd hc
    obtain ⟨d, ds, rfl, d0, hd2⟩ := hd hd'
    cases c0; cases d0; cases h
    simp [eqV, ih hr hc2 hd2]
  | _ => intro b h; simp_all

/-- The value of a type, out of its cells. -/
def valT (P : Program) (t : TypeId) (cs : List Value) : Value := if isAggT P t then .agg cs.toArray else cs.headD undef
theorem part_valT {P : Program} {t : TypeId} {n : Nat} {xs : Array Value} {off : Nat} (hn : sizeT P t = some n) (hu : ∃ d, P.underlying t = some d) (hle : off + n ≤ xs.size) (h1 : isAggT P t = false → n = 1) (w : World) :
    (part t xs off).run P w = .ok (valT P t ((xs.toList.drop off).take n)) w := by
  obtain ⟨d, hd⟩ := hu
  obtain ⟨hsz, _⟩ := sizeT_run hn
  unfold valT
  cases ha : isAggT P t with
  | true =>
    have hag : (isAgg t).run P w = .ok true w := by
      rw [isAgg_run hd]; unfold isAggT at ha; rw [hd] at ha; cases d <;> simp_all
    simp only [part, Sem.run_bind, hag, Result.andThen_ok, if_true, hsz, Sem.run_pure]
    congr 2
    apply Array.ext'
    simp [Array.toList_extract, List.extract_eq_take_drop]
  | false =>
    have hag : (isAgg t).run P w = .ok false w := by
      rw [isAgg_run hd]; unfold isAggT at ha; rw [hd] at ha; cases d <;> simp_all
    have := h1 ha
    subst this
    have hx : xs[off]? = some xs[off] := by simp [show off < xs.size by omega]
    have hh : ((xs.toList.drop off).take 1).headD undef = xs[off] := by
      rw [List.drop_eq_getElem_cons (by simp; omega)]; simp
    simp only [part, Sem.run_bind, hag, Result.andThen_ok, Bool.false_eq_true, if_false, hx, Sem.run_pure, hh]

theorem kindsT_und {P : Program} {d : Nat} {t : TypeId} {ks : List Bool} (h : kindsT P d t = some ks) : ∃ u, P.underlying t = some u := by
  cases d with
  | zero => cases h
  | succ d =>
    unfold kindsT at h
    cases hu : P.underlying t with
    | none => rw [hu] at h; cases h
    | some u => exact ⟨u, rfl⟩
theorem kindsT_one {P : Program} {d : Nat} {t : TypeId} {ks : List Bool} (h : kindsT P d t = some ks) (ha : isAggT P t = false) : ks.length = 1 := by
  cases d with
  | zero => cases h
  | succ d =>
    unfold kindsT at h
    unfold isAggT at ha
    cases hu : P.underlying t with
    | none => rw [hu] at h; cases h
    | some u =>
      rw [hu] at h ha
      cases u <;> simp at h ha <;> subst h <;> rfl

theorem eqFields_run {P : Program} {g : TypeId → Option (List Bool)} {D : Nat} (hg : ∀ t ks, g t = some ks → (∃ u, P.underlying t = some u) ∧ (isAggT P t = false → ks.length = 1) ∧
      ∀ (cs ds : List Value) (b : Bool) (w : World), eqV ks cs ds = some b → (Op.equalIn D t (valT P t cs) (valT P t ds)).run P w = .ok b w) (xs ys : Array Value) (w : World) :
    ∀ (fs : List Field) (off : Nat) (ks : List Bool) (b : Bool), kindsF P g fs off = some ks → off + ks.length ≤ xs.size → off + ks.length ≤ ys.size →
      eqV ks ((xs.toList.drop off).take ks.length) ((ys.toList.drop off).take ks.length) = some b → (Op.eqFields D xs ys fs).run P w = .ok b w := by
  intro fs
  induction fs with
  | nil =>
    intro off ks b h h1 h2 he
    cases h
    simp [eqV] at he
    subst he
    simp [Op.eqFields]
  | cons f fs ih =>
    intro off ks b h h1 h2 he
    unfold kindsF at h
    split at h
    · cases h
    · rename_i hne
      have hn : f.name ≠ "_" := fun e => hne (.inl e)
      have ho : f.offset = off := Classical.byContradiction fun e => hne (.inr e)
      split at h
      · rename_i k1 hk1
        split at h
        · rename_i hsz
          split at h
          · rename_i r hr
            cases h
            obtain ⟨hu, h11, heq⟩ := hg _ _ hk1
            simp only [List.length_append] at h1 h2 he
            have e1 : (xs.toList.drop off).take (k1.length + r.length) = (xs.toList.drop off).take k1.length ++ (xs.toList.drop (off + k1.length)).take r.length := by
              rw [List.take_add, List.drop_drop]
            have e2 : (ys.toList.drop off).take (k1.length + r.length) = (ys.toList.drop off).take k1.length ++ (ys.toList.drop (off + k1.length)).take r.length := by
              rw [List.take_add, List.drop_drop]
            rw [e1, e2] at he
            obtain ⟨x, y, hx, hy, hb⟩ := eqV_append (by simp; omega) (by simp; omega) he
            have hrec := ih (off + k1.length) r y hr (by omega) (by omega) hy
            have px := part_valT (xs := xs) (off := off) hsz hu (by omega) h11 w
            have py := part_valT (xs := ys) (off := off) hsz hu (by omega) h11 w
            have hq := heq _ _ x w hx
            simp only [Op.eqFields, hn, ne_eq, not_false_eq_true, if_true, Sem.run_bind, ho, px, py, Result.andThen_ok, hq, Sem.run_ite, hrec, Sem.run_pure]
            cases x
            · simp [hb]
            · simp [hb]
          · cases h
        · cases h
      · cases h
theorem eqItems_run {P : Program} {e : TypeId} {ks : List Bool} {D : Nat} (hsz : sizeT P e = some ks.length) (hu : ∃ u, P.underlying e = some u) (h11 : isAggT P e = false → ks.length = 1)
    (heq : ∀ (cs ds : List Value) (b : Bool) (w : World), eqV ks cs ds = some b → (Op.equalIn D e (valT P e cs) (valT P e ds)).run P w = .ok b w) (xs ys : Array Value) (w : World) :
    ∀ (m i : Nat) (b : Bool), (i + m) * ks.length ≤ xs.size → (i + m) * ks.length ≤ ys.size →
      eqV ((List.replicate m ks).flatten) ((xs.toList.drop (i * ks.length)).take (m * ks.length)) ((ys.toList.drop (i * ks.length)).take (m * ks.length)) = some b →
      (Op.eqItems D e ks.length xs ys ((List.range m).map (i + ·))).run P w = .ok b w := by
  intro m
  induction m with
  | zero => intro i b h1 h2 he; simp [eqV] at he; subst he; simp [Op.eqItems]
  | succ m ih =>
    intro i b h1 h2 he
    have e0 : (m + 1) * ks.length = ks.length + m * ks.length := by rw [Nat.add_mul, Nat.one_mul, Nat.add_comm]
    have e3 : i * ks.length + ks.length = (i + 1) * ks.length := by rw [Nat.add_mul, Nat.one_mul]
    have e4 : (i + 1 + m) = (i + (m + 1)) := by omega
    have hle : (i + 1) * ks.length ≤ (i + (m + 1)) * ks.length := Nat.mul_le_mul_right _ (by omega)
    rw [List.replicate_succ, List.flatten_cons, e0] at he
    have e1 : (xs.toList.drop (i * ks.length)).take (ks.length + m * ks.length) = (xs.toList.drop (i * ks.length)).take ks.length ++ (xs.toList.drop ((i + 1) * ks.length)).take (m * ks.length) := by
      rw [List.take_add, List.drop_drop, e3]
    have e2 : (ys.toList.drop (i * ks.length)).take (ks.length + m * ks.length) = (ys.toList.drop (i * ks.length)).take ks.length ++ (ys.toList.drop ((i + 1) * ks.length)).take (m * ks.length) := by
      rw [List.take_add, List.drop_drop, e3]
    rw [e1, e2] at he
    obtain ⟨x, y, hx, hy, hb⟩ := eqV_append (by simp; omega) (by simp; omega) he
    have hrec := ih (i + 1) y (by rw [e4]; exact h1) (by rw [e4]; exact h2) hy
    have px := part_valT (xs := xs) (off := i * ks.length) hsz hu (by omega) h11 w
    have py := part_valT (xs := ys) (off := i * ks.length) hsz hu (by omega) h11 w
    have hq := heq _ _ x w hx
    have hm : (List.range (m + 1)).map (i + ·) = i :: (List.range m).map (i + 1 + ·) := by
      rw [List.range_succ_eq_map, List.map_cons, List.map_map]
      congr 1
      apply List.map_congr_left
      intro j _
      simp; omega
    rw [hm]
    simp only [Op.eqItems, Sem.run_bind, px, py, Result.andThen_ok, hq, Sem.run_ite, hrec, Sem.run_pure]
    cases x
    · simp [hb]
    · simp [hb]
theorem equalIn_run {P : Program} : ∀ (d : Nat) (t : TypeId) (ks : List Bool), kindsT P d t = some ks → ∀ (D : Nat), d ≤ D → ∀ (cs ds : List Value) (b : Bool) (w : World), eqV ks cs ds = some b →
    (Op.equalIn D t (valT P t cs) (valT P t ds)).run P w = .ok b w := by
  intro d
  induction d with
  | zero => intro t ks h; cases h
  | succ d ih =>
    intro t ks h D hD cs ds b w he
    obtain ⟨D, rfl⟩ : ∃ m, D = m + 1 := ⟨D - 1, by omega⟩
    obtain ⟨l1, l2⟩ := eqV_length he
    have h0 := h
    unfold kindsT at h
    split at h
    · rename_i k hu
      cases h
      cases cs with
      | nil => simp at l1
      | cons c cs =>
        cases ds with
        | nil => simp at l2
        | cons e ds =>
          have : cs = [] := by simpa using l1
          subst this
          have : ds = [] := by simpa using l2
          subst this
          cases c <;> cases e <;> simp [eqV] at he
          obtain ⟨rfl, rfl⟩ := he
          have hv : ∀ c, valT P t [c] = c := fun c => by unfold valT isAggT; rw [hu]; rfl
          rw [hv, hv]
          exact run_equalIn_int w D t _ k _ _ hu
    · rename_i hu
      cases h
      cases cs with
      | nil => simp at l1
      | cons c cs =>
        cases ds with
        | nil => simp at l2
        | cons e ds =>
          have : cs = [] := by simpa using l1
          subst this
          have : ds = [] := by simpa using l2
          subst this
          cases c <;> cases e <;> simp [eqV] at he
          subst he
          have hv : ∀ c, valT P t [c] = c := fun c => by unfold valT isAggT; rw [hu]; rfl
          rw [hv, hv]
          exact run_equalIn_bool' w D t _ _ hu
    · rename_i fs hu
      split at h
      · rename_i hst
        have hf : P.fieldsOf t = fs := by unfold Program.fieldsOf; rw [hu]
        have hv : ∀ c : List Value, valT P t c = .agg c.toArray := fun c => by unfold valT isAggT; rw [hu]; rfl
        rw [hv, hv, run_equalIn_struct w D t _ _ (by rw [hf]; exact hu) hst, hf]
        refine eqFields_run (g := kindsT P d) (fun t' ks' h' => ⟨kindsT_und h', kindsT_one h', fun cs ds b w he => ih t' ks' h' D (by omega) cs ds b w he⟩) _ _ w _ 0 ks b h (by simp [l1]) (by simp [l2]) ?_
        simpa [List.take_of_length_le, l1, l2] using he
      · cases h
    · rename_i len e hu
      split at h
      · rename_i ks' hk
        split at h
        · rename_i hsz
          cases h
          have hv : ∀ c : List Value, valT P t c = .agg c.toArray := fun c => by unfold valT isAggT; rw [hu]; rfl
          have hlen : (List.replicate len ks').flatten.length = len * ks'.length := by simp
          rw [hlen] at l1 l2
          cases hi : P.info? e with
          | none => simp [sizeT, hi] at hsz
          | some i =>
            have hc : P.cellsOf e = ks'.length := by
              have := (sizeT_run hsz).2
              simp [hi] at this
              simp [Program.cellsOf, hi, this]
            rw [hv, hv, run_equalIn_array w D _ _ hu hi, hc]
            have := eqItems_run (D := D) hsz (kindsT_und hk) (kindsT_one hk) (fun cs ds b w he => ih e ks' hk D (by omega) cs ds b w he) cs.toArray ds.toArray w len 0 b (by simp [l1]) (by simp [l2]) (by simpa [List.take_of_length_le, l1, l2] using he)
            simpa using this
        · cases h
      · cases h
    · cases h

section ops
variable {P : Program} {B : Nat} {φ : Ph} {K : Ks} {h : List Blk} {w : World} {slot : Nat} {ρ : Operand → Option AV} {ρc : Operand → Value} {o : Oper} {r : Res}

theorem eqAgg_run {t : TypeId} {l m : List AV} {b : Bool} (e : eqAgg P t l m = some b) {cs ds : Array Value} (hc : DenL K φ l cs.toList) (hd : DenL K φ m ds.toList) (w : World) :
    (Op.equalIn 10000 t (.agg cs) (.agg ds)).run P w = .ok b w ∧ P.eqGuardType P.depth t = false := by
  unfold eqAgg at e
  split at e
  · rename_i ks hk
    split at e
    · rename_i hg
      obtain ⟨hg, ha⟩ := hg
      have h1 := equalIn_run 12 t ks hk 10000 (by omega) cs.toList ds.toList b w (eqK_eqV e hc hd)
      have hv : ∀ c : Array Value, valT P t c.toList = .agg c := fun c => by unfold valT; rw [ha]; simp
      rw [hv, hv] at h1
      exact ⟨h1, hg⟩
    · cases e
  · cases e
theorem aint_run {op : BinOp} {k : IntKind} {x y : Int} {v : AV} (e : aint op k x y = some (true, v)) (hsh : op ≠ .shl ∧ op ≠ .shr) (t : TypeId) (w : World) : ∃ cv, (binOp op t (.int k x) (.int k y)).run P w = .ok cv w ∧ Den K φ v cv := by
  cases op <;> simp only [aint, Option.some.injEq, Prod.mk.injEq, reduceCtorEq] at e
  case add => obtain ⟨_, rfl⟩ := e; exact ⟨_, by simp [binOp, Op.intArith], .int ..⟩
  case sub => obtain ⟨_, rfl⟩ := e; exact ⟨_, by simp [binOp, Op.intArith], .int ..⟩
  case mul => obtain ⟨_, rfl⟩ := e; exact ⟨_, by simp [binOp, Op.intArith], .int ..⟩
  case quo => obtain ⟨hy, rfl⟩ := e; have : y ≠ 0 := by simpa using hy
              exact ⟨_, by simp [binOp, Op.intDiv, this], .int ..⟩
  case rem => obtain ⟨hy, rfl⟩ := e; have : y ≠ 0 := by simpa using hy
              exact ⟨_, by simp [binOp, Op.intDiv, this], .int ..⟩
  case and => obtain ⟨_, rfl⟩ := e; exact ⟨_, by simp [binOp, Op.intBits], .int ..⟩
  case or => obtain ⟨_, rfl⟩ := e; exact ⟨_, by simp [binOp, Op.intBits], .int ..⟩
  case xor => obtain ⟨_, rfl⟩ := e; exact ⟨_, by simp [binOp, Op.intBits], .int ..⟩
  case andNot => obtain ⟨_, rfl⟩ := e; exact ⟨_, by simp [binOp, Op.intBits], .int ..⟩
  case eql => obtain ⟨_, rfl⟩ := e; exact ⟨_, by simp [binOp, Op.intCmp], .bool ..⟩
  case neq => obtain ⟨_, rfl⟩ := e; exact ⟨_, by simp [binOp, Op.intCmp], .bool ..⟩
  case lss => obtain ⟨_, rfl⟩ := e; exact ⟨_, by simp [binOp, Op.intCmp], .bool ..⟩
  case leq => obtain ⟨_, rfl⟩ := e; exact ⟨_, by simp [binOp, Op.intCmp], .bool ..⟩
  case gtr => obtain ⟨_, rfl⟩ := e; exact ⟨_, by simp [binOp, Op.intCmp], .bool ..⟩
  case geq => obtain ⟨_, rfl⟩ := e; exact ⟨_, by simp [binOp, Op.intCmp], .bool ..⟩
theorem abin_run {op : BinOp} {t : TypeId} {a b v : AV} (e : abin P op t a b = some (true, v)) {x y : Operand} {ca cb : Value} (da : Den K φ a ca) (db : Den K φ b cb) (w : World) :
    (eqGuard op t x y ca cb).run P w = .ok () w ∧ ∃ cv, (binOp op t ca cb).run P w = .ok cv w ∧ Den K φ v cv := by
  unfold abin at e
  split at e
  · cases da; cases db
    simp only [Option.some.injEq, Prod.mk.injEq] at e
    obtain ⟨hy, rfl⟩ := e
    have hy := of_decide_eq_true hy
    have hy := Int.not_lt.2 hy
    exact ⟨by simp [eqGuard], _, by simp [binOp, Op.shift, hy], .int ..⟩
  · cases da; cases db
    simp only [Option.some.injEq, Prod.mk.injEq] at e
    obtain ⟨hy, rfl⟩ := e
    have hy := of_decide_eq_true hy
    have hy := Int.not_lt.2 hy
    exact ⟨by simp [eqGuard], _, by simp [binOp, Op.shift, hy], .int ..⟩
  · rename_i op k x' k' y' h1 h2
    cases da; cases db
    split at e
    · rename_i hk
      subst hk
      refine ⟨by cases op <;> simp [eqGuard], aint_run e ⟨fun h => ?_, fun h => ?_⟩ t w⟩
      · subst h; simp [aint] at e
      · subst h; simp [aint] at e
    · cases e
  · rename_i p q
    cases da; cases db
    split at e
    · rename_i hu
      simp only [Option.some.injEq, Prod.mk.injEq] at e
      obtain ⟨_, rfl⟩ := e
      refine ⟨by simp [eqGuard], .bool (p == q), ?_, .bool ..⟩
      have h1 : (Op.equalIn 10000 t (.bool p) (.bool q)).run P w = .ok (p == q) w := run_equalIn_bool' w 9999 t p q hu
      rw [show binOp .eql t (.bool p) (.bool q) = (do pure (.bool (← Op.equal t (.bool p) (.bool q)))) from rfl]
      simp only [Sem.run_bind, Op.equal, Op.maxDepth, h1, Result.andThen_ok, Sem.run_pure]
    · cases e
  · rename_i p q
    cases da; cases db
    split at e
    · rename_i hu
      simp only [Option.some.injEq, Prod.mk.injEq] at e
      obtain ⟨_, rfl⟩ := e
      refine ⟨by simp [eqGuard], .bool (!(p == q)), ?_, .bool ..⟩
      have h1 : (Op.equalIn 10000 t (.bool p) (.bool q)).run P w = .ok (p == q) w := run_equalIn_bool' w 9999 t p q hu
      rw [show binOp .neq t (.bool p) (.bool q) = (do pure (.bool (!(← Op.equal t (.bool p) (.bool q))))) from rfl]
      simp only [Sem.run_bind, Op.equal, Op.maxDepth, h1, Result.andThen_ok, Sem.run_pure]
    · cases e
  · obtain ⟨cs, rfl, hc⟩ := Den.agg_iff.1 da
    obtain ⟨ds, rfl, hd⟩ := Den.agg_iff.1 db
    split at e
    · rename_i r hr
      simp only [Option.some.injEq, Prod.mk.injEq] at e
      obtain ⟨_, rfl⟩ := e
      obtain ⟨h1, h2⟩ := eqAgg_run hr hc hd w
      exact ⟨run_eqGuard_agg w .eql t x y cs ds h2, _, by rw [run_eql_struct, h1]; rfl, .bool ..⟩
    · cases e
  · obtain ⟨cs, rfl, hc⟩ := Den.agg_iff.1 da
    obtain ⟨ds, rfl, hd⟩ := Den.agg_iff.1 db
    split at e
    · rename_i r hr
      simp only [Option.some.injEq, Prod.mk.injEq] at e
      obtain ⟨_, rfl⟩ := e
      obtain ⟨h1, h2⟩ := eqAgg_run hr hc hd w
      exact ⟨run_eqGuard_agg w .neq t x y cs ds h2, _, by rw [run_neq_struct, h1]; rfl, .bool ..⟩
    · cases e
  · cases e
theorem sim_binOp {op : BinOp} {t u : TypeId} {x y : Operand} (ho : o.op = .binOp op t x y u) (hr : Rel B φ K h w) (hρ : ∀ x v, ρ x = some v → Den K φ v (ρc x)) (e : aop P ρ (fun b => h[b]?) slot o = some (true, r)) : Sim B φ K h w slot ((execOp ρc o).run P w) r := by
  simp only [aop, ho] at e
  split at e
  · rename_i a b hx hy
    split at e
    · rename_i c v hv
      simp only [Option.some.injEq, Prod.mk.injEq] at e
      obtain ⟨rfl, rfl⟩ := e
      obtain ⟨h1, cv, h2, h3⟩ := abin_run (x := x) (y := y) hv (hρ _ _ hx) (hρ _ _ hy) w
      exact Sim.same hr (by simp [execOp, ho, h1, h2]) h3
    · cases e
  · cases e
end ops
end Go.Proofs.Ytdhlbfhfenomcaa.Ab
