/- What an abstract value, frame and heap say of the model's values and memory; how such a saying is kept. -/
import Derived.Test.YtdhlbfhfenomcaaAb0
import Derived.Laws.Sem
import Derived.Laws.World
import Derived.Laws.Cells
import Derived.Laws.NewBlocks
namespace Go.Proofs.Ytdhlbfhfenomcaa.Ab
open Go Go.RowKit
set_option linter.unusedVariables false
set_option linter.unusedSimpArgs false

theorem BT.setK_eq {R : Type} (t : BT) : ∀ (i : Nat) (v : AV) (k : BT → Option R), t.setK i v k = k (t.set i v) := by
  induction t with
  | nil => intro i v k; rfl
  | leaf j w =>
    intro i v k
    show cond (Nat.beq i j) (k (.leaf j v)) (k (.leaf j w)) = k (.leaf j (cond (Nat.beq i j) v w))
    cases Nat.beq i j <;> rfl
  | node m l r ihl ihr =>
    intro i v k
    show cond (Nat.ble i m) (l.setK i v fun l' => k (.node m l' r)) (r.setK i v fun r' => k (.node m l r')) = k (cond (Nat.ble i m) (.node m (l.set i v) r) (.node m l (r.set i v)))
    rw [ihl, ihr]
    cases Nat.ble i m <;> rfl
theorem BT.get_set (t : BT) : ∀ (i j : Nat) (v : AV), (t.set i v).get j = if i = j then (t.get i).map (fun _ => v) else t.get j := by
  induction t with
  | nil => intro i j v; show none = _; split <;> rfl
  | leaf n w =>
    intro i j v
    show cond (Nat.beq j n) (some (cond (Nat.beq i n) v w)) none = if i = j then (cond (Nat.beq i n) (some w) none).map (fun _ => v) else cond (Nat.beq j n) (some w) none
    by_cases h : i = j
    · subst h; rw [if_pos rfl]; cases Nat.beq i n <;> rfl
    · rw [if_neg h]
      cases hj : Nat.beq j n with
      | false => rfl
      | true =>
        have e : j = n := Nat.eq_of_beq_eq_true hj
        have : Nat.beq i n = false := by
          cases hi : Nat.beq i n with
          | false => rfl
          | true => exact absurd ((Nat.eq_of_beq_eq_true hi).trans e.symm) h
        rw [this]; rfl
  | node m l r ihl ihr =>
    intro i j v
    show (cond (Nat.ble i m) (BT.node m (l.set i v) r) (BT.node m l (r.set i v))).get j = if i = j then (cond (Nat.ble i m) (l.get i) (r.get i)).map (fun _ => v) else cond (Nat.ble j m) (l.get j) (r.get j)
    cases hi : Nat.ble i m with
    | true =>
      show cond (Nat.ble j m) ((l.set i v).get j) (r.get j) = if i = j then (l.get i).map (fun _ => v) else cond (Nat.ble j m) (l.get j) (r.get j)
      rw [ihl]
      by_cases h : i = j
      · subst h; rw [hi, if_pos rfl]; simp
      · rw [if_neg h, if_neg h]
    | false =>
      show cond (Nat.ble j m) (l.get j) ((r.set i v).get j) = if i = j then (r.get i).map (fun _ => v) else cond (Nat.ble j m) (l.get j) (r.get j)
      rw [ihr]
      by_cases h : i = j
      · subst h; rw [hi, if_pos rfl]; simp
      · rw [if_neg h, if_neg h]
theorem BT.get_mk (n : Nat) : ∀ (d lo i : Nat) (v : AV), (BT.mk n d lo).get i = some v → i < n ∧ v = .tup [] := by
  intro d
  induction d with
  | zero =>
    intro lo i v h
    have h' : (cond (Nat.ble (lo + 1) n) (BT.leaf lo (.tup [])) .nil).get i = some v := h
    cases hb : Nat.ble (lo + 1) n with
    | false => rw [hb] at h'; cases h'
    | true =>
      rw [hb] at h'
      have h2 : cond (Nat.beq i lo) (some (AV.tup [])) none = some v := h'
      cases hc : Nat.beq i lo with
      | false => rw [hc] at h2; cases h2
      | true =>
        rw [hc] at h2
        have := Nat.eq_of_beq_eq_true hc
        have := Nat.le_of_ble_eq_true hb
        exact ⟨by omega, (Option.some.inj h2).symm⟩
  | succ d ih =>
    intro lo i v h
    have h' : cond (Nat.ble i (lo + 2 ^ d - 1)) ((BT.mk n d lo).get i) ((BT.mk n d (lo + 2 ^ d)).get i) = some v := h
    cases hb : Nat.ble i (lo + 2 ^ d - 1) <;> rw [hb] at h' <;> exact ih _ _ _ h'

/-- A local block in the model's memory: where it lies; the first cell that may be written by an append, and how many cells there are. -/
structure GB where
  cb : Nat
  e : Nat
  tot : Nat
abbrev Ph := Nat → Option GB
/-- Cells that nobody writes any more. -/
abbrev Ks := Nat → Nat → Option Value

/-- An abstract value says this of a value. -/
inductive Den (K : Ks) : Ph → AV → Value → Prop where
  | int (φ k n) : Den K φ (.int k n) (.int k n)
  | bool (φ b) : Den K φ (.bool b) (.bool b)
  | str (φ s) : Den K φ (.str s) (.string s)
  | nilp (φ) : Den K φ .nilp (.pointer none)
  | nils (φ) : Den K φ .nils (.slice none 0 0)
  | nilf (φ) : Den K φ .nilf .nilFunc
  | nili (φ) : Den K φ .nili .nilIface
  | nilm (φ) : Den K φ .nilm (.map none)
  | ptr (φ b off g) : φ b = some g → Den K φ (.ptr b off) (.pointer (some ⟨g.cb, off, none⟩))
  | map (φ b g) : φ b = some g → Den K φ (.map b) (.map (some g.cb))
  | lsl (φ b n g cap) : φ b = some g → n ≤ cap → Den K φ (.lsl b n) (.slice (some ⟨g.cb, 0, none⟩) n cap)
  | rop (φ n f i c cb o esz) (cv : Nat → Nat → Value) : i < n → (∀ j : Nat, j < n → (cellsOf (f j)).length = esz) →
      (∀ (j l : Nat) (u : AV), j < n → (cellsOf (f j))[l]? = some u → K cb (o + j * esz + l) = some (cv j l)) →
      (∀ (j l : Nat) (u : AV), j < n → (cellsOf (f j))[l]? = some u → Den K (fun _ => none) u (cv j l)) →
      Den K φ (.rop n f i c) (.pointer (some ⟨cb, o + i * esz + c, none⟩))
  | rosn (φ f A cap) : Den K φ (.ros false 0 f) (.slice A 0 cap)
  | rosf (φ f A) : Den K φ (.ros true 0 f) (.slice A 0 0)
  | ros (φ fl n f cb o esz cap) (cv : Nat → Nat → Value) : n ≤ cap → (fl = true → cap = n) → (∀ j : Nat, j < n → (cellsOf (f j)).length = esz) →
      (∀ (j l : Nat) (u : AV), j < n → (cellsOf (f j))[l]? = some u → K cb (o + j * esz + l) = some (cv j l)) →
      (∀ (j l : Nat) (u : AV), j < n → (cellsOf (f j))[l]? = some u → Den K (fun _ => none) u (cv j l)) →
      Den K φ (.ros fl n f) (.slice (some ⟨cb, o, none⟩) n cap)
  | osl (φ b n f v) : Den K φ (.ros false n f) v → (∀ (A : Option Addr) (m cap : Nat), v = .slice A m cap → cap = n ∨
        ∃ (g : GB) (ad : Addr) (esz : Nat), 0 < n ∧ φ b = some g ∧ A = some ad ∧ ad.block = g.cb ∧ ad.spot = none ∧ ad.off + n * esz = g.e ∧ ad.off + cap * esz ≤ g.tot ∧ ∀ j : Nat, j < n → (cellsOf (f j)).length = esz) → Den K φ (.osl b n f) v
  | fn (φ f) (a b : List AV) (ca cb : Array Value) : a.length = ca.size → (∀ (i : Nat) (u : AV) (v : Value), a[i]? = some u → ca[i]? = some v → Den K φ u v) →
      b.length = cb.size → (∀ (i : Nat) (u : AV) (v : Value), b[i]? = some u → cb[i]? = some v → Den K φ u v) → Den K φ (.fn f a b) (.func f ca cb)
  | ifc (φ t v cv) : Den K φ v cv → Den K φ (.ifc t v) (.iface t cv)
  | agg (φ) (l : List AV) (cs : Array Value) : l.length = cs.size → (∀ (i : Nat) (u : AV) (v : Value), l[i]? = some u → cs[i]? = some v → Den K φ u v) → Den K φ (.agg l) (.agg cs)
  | tup (φ) (l : List AV) (cs : Array Value) : l.length = cs.size → (∀ (i : Nat) (u : AV) (v : Value), l[i]? = some u → cs[i]? = some v → Den K φ u v) → Den K φ (.tup l) (.tuple cs)

structure Ext (φ : Ph) (K : Ks) (φ' : Ph) (K' : Ks) : Prop where
  ph : ∀ i g, φ i = some g → φ' i = some g
  ks : ∀ b o v, K b o = some v → K' b o = some v
theorem Ext.refl (φ : Ph) (K : Ks) : Ext φ K φ K := ⟨fun _ _ h => h, fun _ _ _ h => h⟩
theorem Ext.trans {φ φ' φ'' : Ph} {K K' K'' : Ks} (h : Ext φ K φ' K') (k : Ext φ' K' φ'' K'') : Ext φ K φ'' K'' := ⟨fun i g e => k.ph i g (h.ph i g e), fun b o v e => k.ks b o v (h.ks b o v e)⟩

/-- What has come to be known lies in blocks from B on. -/
def KN (B : Nat) (K K' : Ks) : Prop := ∀ (cb o : Nat) (v : Value), K' cb o = some v → K cb o = some v ∨ B ≤ cb
theorem KN.refl (B : Nat) (K : Ks) : KN B K K := fun _ _ _ h => .inl h
theorem KN.trans {B : Nat} {K K' K'' : Ks} (h : KN B K K') (k : KN B K' K'') : KN B K K'' := fun cb o v hv => (k cb o v hv).elim (h cb o v) .inr
theorem Den.mono {K K' : Ks} {φ : Ph} {v : AV} {cv : Value} (h : Den K φ v cv) : ∀ {φ' : Ph}, Ext φ K φ' K' → Den K' φ' v cv := by
  induction h with
  | int => intro φ' e; exact .int ..
  | bool => intro φ' e; exact .bool ..
  | str => intro φ' e; exact .str ..
  | nilp => intro φ' e; exact .nilp ..
  | nils => intro φ' e; exact .nils ..
  | nilf => intro φ' e; exact .nilf ..
  | nili => intro φ' e; exact .nili ..
  | nilm => intro φ' e; exact .nilm ..
  | ptr _ _ _ g hb => intro φ' e; exact .ptr _ _ _ g (e.ph _ _ hb)
  | map _ _ g hb => intro φ' e; exact .map _ _ g (e.ph _ _ hb)
  | lsl _ _ _ g _ hb hc => intro φ' e; exact .lsl _ _ _ g _ (e.ph _ _ hb) hc
  | rop _ n f i c cb o esz cv hi hl hk _ ih => intro φ' e; exact .rop _ n f i c cb o esz cv hi hl (fun j l u hj hu => e.ks _ _ _ (hk j l u hj hu)) (fun j l u hj hu => ih j l u hj hu ⟨(fun _ _ h => by cases h), e.ks⟩)
  | rosn => intro φ' e; exact .rosn ..
  | rosf => intro φ' e; exact .rosf ..
  | ros _ fl n f cb o esz cap cv hc hf hl hk _ ih => intro φ' e; exact .ros _ fl n f cb o esz cap cv hc hf hl (fun j l u hj hu => e.ks _ _ _ (hk j l u hj hu)) (fun j l u hj hu => ih j l u hj hu ⟨(fun _ _ h => by cases h), e.ks⟩)
  | osl _ b n f v _ hg ih =>
    intro φ' e
    refine .osl _ b n f v (ih e) fun A m cap hv => ?_
    rcases hg A m cap hv with h | ⟨g, ad, esz, h1, h2⟩
    · exact .inl h
    · exact .inr ⟨g, ad, esz, h1, e.ph _ _ h2.1, h2.2⟩
  | fn _ f a b ca cb h1 _ h3 _ i1 i2 => intro φ' e; exact .fn _ f a b ca cb h1 (fun i u v hu hv => i1 i u v hu hv e) h3 (fun i u v hu hv => i2 i u v hu hv e)
  | ifc _ t v cv _ ih => intro φ' e; exact .ifc _ t v cv (ih e)
  | agg _ l cs h1 _ ih => intro φ' e; exact .agg _ l cs h1 (fun i u v hu hv => ih i u v hu hv e)
  | tup _ l cs h1 _ ih => intro φ' e; exact .tup _ l cs h1 (fun i u v hu hv => ih i u v hu hv e)

/-- Of a slice that names a local block, and of a bare one, the same is said of the elements. -/
theorem Den.osl_ros {K : Ks} {φ : Ph} {b n : Nat} {f : Nat → AV} {v : Value} (h : Den K φ (.osl b n f) v) : Den K φ (.ros false n f) v := by
  cases h with
  | osl _ _ _ _ _ h _ => exact h

theorem pureL_get {l : List AV} (h : AV.pureL l = true) : ∀ (i : Nat) (u : AV), l[i]? = some u → u.pureB = true := by
  induction l with
  | nil => intro i u hu; cases hu
  | cons a l ih =>
    simp only [AV.pureL, Bool.and_eq_true] at h
    intro i u hu
    cases i with
    | zero => cases hu; exact h.1
    | succ i => exact ih h.2 i u (by simpa using hu)
theorem stripL_get {l : List AV} : ∀ {i : Nat} {u : AV}, (AV.stripL l)[i]? = some u → ∃ w, l[i]? = some w ∧ u = w.strip := by
  induction l with
  | nil => intro i u hu; cases hu
  | cons a l ih =>
    intro i u hu
    cases i with
    | zero => refine ⟨a, rfl, ?_⟩; cases hu; rfl
    | succ i => obtain ⟨w, h1, h2⟩ := ih (i := i) (u := u) (by simpa [AV.stripL] using hu); exact ⟨w, by simpa using h1, h2⟩
theorem stripL_length (l : List AV) : (AV.stripL l).length = l.length := by
  induction l with
  | nil => rfl
  | cons a l ih => simp [AV.stripL, ih]
/-- What names no local block may be said of it in whatever places. -/
theorem Den.pure {K : Ks} {φ : Ph} {v : AV} {cv : Value} (h : Den K φ v cv) : v.pureB = true → ∀ φ' : Ph, Den K φ' v cv := by
  induction h with
  | int => intro _ φ'; exact .int ..
  | bool => intro _ φ'; exact .bool ..
  | str => intro _ φ'; exact .str ..
  | nilp => intro _ φ'; exact .nilp ..
  | nils => intro _ φ'; exact .nils ..
  | nilf => intro _ φ'; exact .nilf ..
  | nili => intro _ φ'; exact .nili ..
  | nilm => intro _ φ'; exact .nilm ..
  | ptr _ _ _ g hb => intro hp; simp [AV.pureB] at hp
  | map _ _ g hb => intro hp; simp [AV.pureB] at hp
  | lsl _ _ _ g _ hb hc => intro hp; simp [AV.pureB] at hp
  | rop _ n f i c cb o esz cv hi hl hk hd ih => intro _ φ'; exact .rop _ n f i c cb o esz cv hi hl hk hd
  | rosn => intro _ φ'; exact .rosn ..
  | rosf => intro _ φ'; exact .rosf ..
  | ros _ fl n f cb o esz cap cv hc hf hl hk hd ih => intro _ φ'; exact .ros _ fl n f cb o esz cap cv hc hf hl hk hd
  | osl _ b n f v _ hg ih => intro hp; simp [AV.pureB] at hp
  | fn _ f a b ca cb h1 _ h3 _ i1 i2 =>
    intro hp φ'
    simp only [AV.pureB, Bool.and_eq_true] at hp
    exact .fn _ f a b ca cb h1 (fun i u v hu hv => i1 i u v hu hv (pureL_get hp.1 i u hu) φ') h3 (fun i u v hu hv => i2 i u v hu hv (pureL_get hp.2 i u hu) φ')
  | ifc _ t v cv _ ih => intro hp φ'; simp only [AV.pureB] at hp; exact .ifc _ t v cv (ih hp φ')
  | agg _ l cs h1 _ ih => intro hp φ'; simp only [AV.pureB] at hp; exact .agg _ l cs h1 (fun i u v hu hv => ih i u v hu hv (pureL_get hp i u hu) φ')
  | tup _ l cs h1 _ ih => intro hp φ'; simp only [AV.pureB] at hp; exact .tup _ l cs h1 (fun i u v hu hv => ih i u v hu hv (pureL_get hp i u hu) φ')
theorem Den.stripped {K : Ks} {φ : Ph} {v : AV} {cv : Value} (h : Den K φ v cv) : Den K φ v.strip cv := by
  induction h with
  | osl _ b n f v h hg ih => simpa [AV.strip] using h
  | fn _ f a b ca cb h1 _ h3 _ i1 i2 =>
    simp only [AV.strip]
    refine .fn _ f _ _ ca cb (by rw [stripL_length]; exact h1) (fun i u v hu hv => ?_) (by rw [stripL_length]; exact h3) (fun i u v hu hv => ?_)
    · obtain ⟨w, hw, rfl⟩ := stripL_get hu; exact i1 i w v hw hv
    · obtain ⟨w, hw, rfl⟩ := stripL_get hu; exact i2 i w v hw hv
  | ifc _ t v cv _ ih => simp only [AV.strip]; exact .ifc _ t _ cv ih
  | agg _ l cs h1 _ ih =>
    simp only [AV.strip]
    exact .agg _ _ cs (by rw [stripL_length]; exact h1) (fun i u v hu hv => by obtain ⟨w, hw, rfl⟩ := stripL_get hu; exact ih i w v hw hv)
  | tup _ l cs h1 _ ih =>
    simp only [AV.strip]
    exact .tup _ _ cs (by rw [stripL_length]; exact h1) (fun i u v hu hv => by obtain ⟨w, hw, rfl⟩ := stripL_get hu; exact ih i w v hw hv)
  | int => exact .int ..
  | bool => exact .bool ..
  | str => exact .str ..
  | nilp => exact .nilp ..
  | nils => exact .nils ..
  | nilf => exact .nilf ..
  | nili => exact .nili ..
  | nilm => exact .nilm ..
  | ptr _ _ _ g hb => exact .ptr _ _ _ g hb
  | map _ _ g hb => exact .map _ _ g hb
  | lsl _ _ _ g _ hb hc => exact .lsl _ _ _ g _ hb hc
  | rop _ n f i c cb o esz cv hi hl hk hd ih => exact .rop _ n f i c cb o esz cv hi hl hk hd
  | rosn => exact .rosn ..
  | rosf => exact .rosf ..
  | ros _ fl n f cb o esz cap cv hc hf hl hk hd ih => exact .ros _ fl n f cb o esz cap cv hc hf hl hk hd

/-- Of lists, one by one. -/
def DenL (K : Ks) (φ : Ph) (l : List AV) (cs : List Value) : Prop := l.length = cs.length ∧ ∀ (i : Nat) (u : AV) (v : Value), l[i]? = some u → cs[i]? = some v → Den K φ u v
theorem DenL.nil (K : Ks) (φ : Ph) : DenL K φ [] [] := ⟨rfl, fun i u v h => by cases h⟩
theorem DenL.cons {K : Ks} {φ : Ph} {a : AV} {c : Value} {l : List AV} {cs : List Value} (h : Den K φ a c) (hl : DenL K φ l cs) : DenL K φ (a :: l) (c :: cs) := by
  refine ⟨by simp [hl.1], fun i u v hu hv => ?_⟩
  cases i with
  | zero => cases hu; cases hv; exact h
  | succ i => exact hl.2 i u v (by simpa using hu) (by simpa using hv)
theorem DenL.append {K : Ks} {φ : Ph} {l m : List AV} {cs ds : List Value} (h : DenL K φ l cs) (k : DenL K φ m ds) : DenL K φ (l ++ m) (cs ++ ds) := by
  refine ⟨by simp [h.1, k.1], fun i u v hu hv => ?_⟩
  rcases Nat.lt_or_ge i l.length with hi | hi
  · rw [List.getElem?_append_left hi] at hu
    rw [List.getElem?_append_left (by rw [← h.1]; exact hi)] at hv
    exact h.2 i u v hu hv
  · rw [List.getElem?_append_right hi] at hu
    rw [List.getElem?_append_right (by rw [← h.1]; exact hi), ← h.1] at hv
    exact k.2 _ u v hu hv
theorem DenL.drop {K : Ks} {φ : Ph} {l : List AV} {cs : List Value} (n : Nat) (h : DenL K φ l cs) : DenL K φ (l.drop n) (cs.drop n) := by
  refine ⟨by simp [h.1], fun i u v hu hv => ?_⟩
  rw [List.getElem?_drop] at hu hv
  exact h.2 _ u v hu hv
theorem DenL.take {K : Ks} {φ : Ph} {l : List AV} {cs : List Value} (n : Nat) (h : DenL K φ l cs) : DenL K φ (l.take n) (cs.take n) := by
  refine ⟨by simp [h.1], fun i u v hu hv => ?_⟩
  rw [List.getElem?_take] at hu hv
  split at hu
  · rename_i hi; rw [if_pos hi] at hv; exact h.2 _ u v hu hv
  · cases hu
theorem DenL.mono {K K' : Ks} {φ φ' : Ph} {l : List AV} {cs : List Value} (h : DenL K φ l cs) (e : Ext φ K φ' K') : DenL K' φ' l cs := ⟨h.1, fun i u v hu hv => (h.2 i u v hu hv).mono e⟩
theorem DenL.strip {K : Ks} {φ : Ph} {l : List AV} {cs : List Value} (h : DenL K φ l cs) : DenL K φ (AV.stripL l) cs :=
  ⟨by rw [stripL_length]; exact h.1, fun i u v hu hv => by obtain ⟨w, hw, rfl⟩ := stripL_get hu; exact (h.2 i w v hw hv).stripped⟩
theorem DenL.pure {K : Ks} {φ : Ph} {l : List AV} {cs : List Value} (h : DenL K φ l cs) (hp : AV.pureL l = true) (φ' : Ph) : DenL K φ' l cs :=
  ⟨h.1, fun i u v hu hv => (h.2 i u v hu hv).pure (pureL_get hp i u hu) φ'⟩
theorem Den.agg_iff {K : Ks} {φ : Ph} {l : List AV} {cv : Value} : Den K φ (.agg l) cv ↔ ∃ cs : Array Value, cv = .agg cs ∧ DenL K φ l cs.toList := by
  constructor
  · intro h
    cases h with
    | agg _ _ cs h1 h2 => exact ⟨cs, rfl, by simpa using h1, fun i u v hu hv => h2 i u v hu (by simpa using hv)⟩
  · rintro ⟨cs, rfl, h1, h2⟩
    exact .agg _ _ cs (by simpa using h1) fun i u v hu hv => h2 i u v hu (by simpa using hv)
theorem Den.tup_iff {K : Ks} {φ : Ph} {l : List AV} {cv : Value} : Den K φ (.tup l) cv ↔ ∃ cs : Array Value, cv = .tuple cs ∧ DenL K φ l cs.toList := by
  constructor
  · intro h
    cases h with
    | tup _ _ cs h1 h2 => exact ⟨cs, rfl, by simpa using h1, fun i u v hu hv => h2 i u v hu (by simpa using hv)⟩
  · rintro ⟨cs, rfl, h1, h2⟩
    exact .tup _ _ cs (by simpa using h1) fun i u v hu hv => h2 i u v hu (by simpa using hv)
/-- The cells of a value. -/
theorem Den.cells {K : Ks} {φ : Ph} {v : AV} {cv : Value} (h : Den K φ v cv) : DenL K φ (cellsOf v) cv.cells.toList := by
  cases h with
  | agg _ l cs h1 h2 => exact ⟨by simpa [cellsOf, Value.cells] using h1, fun i u v hu hv => h2 i u v hu (by simpa [Value.cells] using hv)⟩
  | osl _ b n f _ h hg =>
    have e : cv.cells = #[cv] := by cases h <;> rfl
    rw [e]; exact DenL.cons (.osl _ b n f _ h hg) (DenL.nil _ _)
  | _ => refine DenL.cons ?_ (DenL.nil _ _); first | assumption | (constructor <;> assumption)

theorem ofC_den {v : Value} {a : AV} (h : ofC v = some a) (K : Ks) (φ : Ph) : Den K φ a v := by
  unfold ofC at h
  split at h <;> first | (cases h; constructor) | cases h
theorem ofCs_den {l : List Value} : ∀ {as : List AV}, ofCs l = some as → ∀ (K : Ks) (φ : Ph), DenL K φ as l := by
  induction l with
  | nil => intro as h K φ; cases h; exact DenL.nil _ _
  | cons v l ih =>
    intro as h K φ
    unfold ofCs at h
    split at h
    · rename_i a b ha hb; cases h; exact DenL.cons (ofC_den ha K φ) (ih hb K φ)
    · cases h
theorem ofV_den {v : Value} {a : AV} (h : ofV v = some a) (K : Ks) (φ : Ph) : Den K φ a v := by
  unfold ofV at h
  split at h
  · split at h
    · rename_i l hl; cases h; exact Den.agg_iff.2 ⟨_, rfl, ofCs_den hl K φ⟩
    · cases h
  · exact ofC_den h K φ

/-- A frame. -/
def FD (K : Ks) (φ : Ph) (t : BT) (tm : Array Value) : Prop := ∀ (i : Nat) (v : AV), t.get i = some v → ∃ cv, tm[i]? = some cv ∧ Den K φ v cv
theorem FD.mono {K K' : Ks} {φ φ' : Ph} {t : BT} {tm : Array Value} (h : FD K φ t tm) (e : Ext φ K φ' K') : FD K' φ' t tm := fun i v hv => let ⟨cv, h1, h2⟩ := h i v hv; ⟨cv, h1, h2.mono e⟩
theorem FD.put {K : Ks} {φ : Ph} {t : BT} {tm : Array Value} (h : FD K φ t tm) (d : Nat) {v : AV} {cv : Value} (hv : Den K φ v cv) : FD K φ (t.set d v) (tm.setIfInBounds d cv) := by
  intro i u hu
  rw [BT.get_set] at hu
  by_cases e : d = i
  · subst e
    rw [if_pos rfl] at hu
    cases hg : t.get d with
    | none => rw [hg] at hu; cases hu
    | some w =>
      rw [hg] at hu; cases hu
      obtain ⟨c, h1, _⟩ := h d w hg
      have hd : d < tm.size := by rcases Nat.lt_or_ge d tm.size with h' | h'; exact h'; simp [h'] at h1
      exact ⟨cv, by simp [hd], hv⟩
  · rw [if_neg e] at hu
    obtain ⟨c, h1, h2⟩ := h i u hu
    exact ⟨c, by rw [Array.getElem?_setIfInBounds_ne e]; exact h1, h2⟩
theorem FD.putT {K : Ks} {φ : Ph} {t : BT} {a : Act} (h : FD K φ t a.tmps) (d : Option Tmp) {v : AV} {cv : Value} (hv : Den K φ v cv) : FD K φ (putT t d v) (a.put d cv).tmps := by
  cases d with
  | none => exact h
  | some d => exact h.put d hv
theorem ev_den {K : Ks} {φ : Ph} {t : BT} {a : Act} (h : FD K φ t a.tmps) {x : Operand} {v : AV} (hv : ev t x = some v) : Den K φ v (a.eval x) := by
  cases x with
  | tmp i =>
    obtain ⟨c, h1, h2⟩ := h i v hv
    show Den K φ v (a.tmps.getD i undef)
    rw [Array.getD_eq_getD_getElem?, h1]; exact h2
  | const c => exact ofV_den hv K φ
  | global g => cases hv
  | func f => cases hv; exact .fn _ _ _ _ _ _ rfl (fun i u v h => by cases h) rfl (fun i u v h => by cases h)
theorem evs_den {K : Ks} {φ : Ph} {t : BT} {a : Act} (h : FD K φ t a.tmps) : ∀ {l : List Operand} {vs : List AV}, evs t l = some vs → DenL K φ vs (l.map a.eval) := by
  intro l
  induction l with
  | nil => intro vs hv; cases hv; exact DenL.nil _ _
  | cons x l ih =>
    intro vs hv
    unfold evs at hv
    split at hv
    · rename_i u us hu hus; cases hv; exact DenL.cons (ev_den h hu) (ih hus)
    · cases hv

/-- A local block. -/
def BlkOK (K : Ks) (φ : Ph) (w : World) (g : GB) : Blk → Prop
  | .dead => True
  | .own => ∃ cvs t, w.heap[g.cb]? = some (.cells cvs t (0, 0)) ∧ g.tot ≤ cvs.size
  | .cells l => ∃ cvs t, w.heap[g.cb]? = some (.cells cvs t (0, 0)) ∧ DenL K φ l cvs.toList
  | .map es => ∃ ces clock, w.heap[g.cb]? = some (.map ces clock) ∧ ces.size = es.length ∧ ∀ (i : Nat) (e : AV × AV) (c : MapEntry), es[i]? = some e → ces[i]? = some c → Den K φ e.1 c.key ∧ Den K φ e.2 c.val

def Blk.live : Blk → Bool
  | .dead => false
  | _ => true
/-- The abstract heap says this of the memory. -/
structure Rel (B : Nat) (φ : Ph) (K : Ks) (h : List Blk) (w : World) : Prop where
  base : B ≤ w.heap.size
  fresh : ∀ i, h.length ≤ i → φ i = none
  blk : ∀ (i : Nat) (b : Blk) (g : GB), h[i]? = some b → φ i = some g → BlkOK K φ w g b
  there : ∀ (i : Nat) (b : Blk), h[i]? = some b → b ≠ .own → b.live = true → ∃ g, φ i = some g
  own : ∀ (i : Nat) (b : Blk) (g : GB), h[i]? = some b → b.live = true → φ i = some g → B ≤ g.cb ∧ g.cb < w.heap.size
  inj : ∀ (i j : Nat) (b c : Blk) (g k : GB), h[i]? = some b → h[j]? = some c → b.live = true → c.live = true → φ i = some g → φ j = some k → g.cb = k.cb → i = j
  one : ∀ (cb o : Nat) (v : Value), K cb o = some v → v.oneCell' = true
  stab : ∀ (cb o : Nat) (v : Value), K cb o = some v → w.cell? ⟨cb, o, none⟩ = some v ∧ ∀ (i : Nat) (b : Blk) (g : GB), h[i]? = some b → b.live = true → φ i = some g → g.cb = cb → b = .own ∧ o < g.e
end Go.Proofs.Ytdhlbfhfenomcaa.Ab
