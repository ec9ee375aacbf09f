/- The abstract interpreter: Go's code carried out over abstract values (whole numbers, read-only rows, local blocks); definitions only. -/
import Derived.Defers
import Derived.LoopN
import Derived.Orders
import Derived.Still
import Derived.Below
namespace Go.Proofs.Ytdhlbfhfenomcaa.Ab
open Go
set_option linter.unusedVariables false

/-- An abstract value. 'ptr', 'osl', 'lsl', 'map' name local blocks; 'ros', 'rop' a row that nobody writes any more (of so many elements; 'full': no spare room). -/
inductive AV where
  | int (k : IntKind) (n : Int)
  | bool (b : Bool)
  | str (s : ByteArray)
  | nilp | nils | nilf | nili | nilm
  | ptr (b off : Nat)
  | rop (n : Nat) (f : Nat → AV) (i c : Nat)
  | ros (full : Bool) (n : Nat) (f : Nat → AV)
  | osl (b : Nat) (n : Nat) (f : Nat → AV)
  | lsl (b : Nat) (n : Nat)
  | fn (f : Fn) (first caps : List AV)
  | ifc (t : TypeId) (v : AV)
  | agg (l : List AV)
  | tup (l : List AV)
  | map (b : Nat)
  deriving Inhabited

inductive Blk where
  | dead
  | own
  | cells (l : List AV)
  | map (es : List (AV × AV))
  deriving Inhabited

/-- A frame: a tree, so that a look and a put take few steps. -/
inductive BT where
  | nil
  | leaf (k : Nat) (v : AV)
  | node (m : Nat) (l r : BT)
noncomputable def BT.get (t : BT) : Nat → Option AV :=
  BT.rec (motive := fun _ => Nat → Option AV) (fun _ => none) (fun k v i => cond (Nat.beq i k) (some v) none) (fun m _ _ gl gr i => cond (Nat.ble i m) (gl i) (gr i)) t
noncomputable def BT.set (t : BT) : Nat → AV → BT :=
  BT.rec (motive := fun _ => Nat → AV → BT) (fun _ _ => .nil) (fun k v i x => .leaf k (cond (Nat.beq i k) x v)) (fun m l r sl sr i x => cond (Nat.ble i m) (.node m (sl i x) r) (.node m l (sr i x))) t
/-- The same, the way down written out. -/
noncomputable def BT.setK {R : Type} (t : BT) : Nat → AV → (BT → Option R) → Option R :=
  BT.rec (motive := fun _ => Nat → AV → (BT → Option R) → Option R) (fun _ _ k => k .nil) (fun k v i x q => cond (Nat.beq i k) (q (.leaf k x)) (q (.leaf k v)))
    (fun m l r sl sr i x q => cond (Nat.ble i m) (sl i x fun l' => q (.node m l' r)) (sr i x fun r' => q (.node m l r'))) t
/-- An empty frame of n places, from lo on, 2^d at most. -/
noncomputable def BT.mk (n : Nat) (d : Nat) : Nat → BT :=
  Nat.rec (motive := fun _ => Nat → BT) (fun lo => cond (Nat.ble (lo + 1) n) (.leaf lo (.tup [])) .nil) (fun d ih lo => .node (lo + 2 ^ d - 1) (ih lo) (ih (lo + 2 ^ d))) d
noncomputable def BT.args : List AV → Nat → BT → BT
  | [], _, t => t
  | v :: l, i, t => BT.args l (i + 1) (t.set i v)

structure St where
  t : BT
  h : List Blk
  d : List (FuncId × List AV)

def cellsOf : AV → List AV
  | .agg l => l
  | v => [v]

mutual
/-- No local block is named. -/
def AV.pureB : AV → Bool
  | .ptr _ _ | .map _ | .osl _ _ _ | .lsl _ _ => false
  | .fn _ a b => AV.pureL a && AV.pureL b
  | .ifc _ v => v.pureB
  | .agg l => AV.pureL l
  | .tup l => AV.pureL l
  | _ => true
def AV.pureL : List AV → Bool
  | [] => true
  | v :: l => v.pureB && AV.pureL l
end
mutual
/-- Without the right to append. -/
def AV.strip : AV → AV
  | .osl _ n f => .ros false n f
  | .fn g a b => .fn g (AV.stripL a) (AV.stripL b)
  | .ifc t v => .ifc t v.strip
  | .agg l => .agg (AV.stripL l)
  | .tup l => .tup (AV.stripL l)
  | v => v
def AV.stripL : List AV → List AV
  | [] => []
  | v :: l => v.strip :: AV.stripL l
end

mutual
/-- Nothing in memory is named. -/
def AV.flatB : AV → Bool
  | .int _ _ | .bool _ | .str _ | .nilp | .nils | .nilf | .nili | .nilm => true
  | .agg l => AV.flatL l
  | .tup l => AV.flatL l
  | _ => false
def AV.flatL : List AV → Bool
  | [] => true
  | v :: l => v.flatB && AV.flatL l
end

def ofC : Value → Option AV
  | .int k n => some (.int k n)
  | .bool b => some (.bool b)
  | .string s => some (.str s)
  | .pointer none => some .nilp
  | .slice none 0 0 => some .nils
  | .map none => some .nilm
  | .nilFunc => some .nilf
  | .nilIface => some .nili
  | _ => none
def ofCs : List Value → Option (List AV)
  | [] => some []
  | v :: l => match ofC v, ofCs l with
    | some a, some b => some (a :: b)
    | _, _ => none
def ofV : Value → Option AV
  | .agg cs => match ofCs cs.toList with
    | some l => some (.agg l)
    | none => none
  | v => ofC v

noncomputable def ev (t : BT) : Operand → Option AV
  | .tmp i => t.get i
  | .const v => ofV v
  | .global _ => none
  | .func f => some (.fn (.func f) [] [])
noncomputable def evs (t : BT) : List Operand → Option (List AV)
  | [] => some []
  | x :: l => match ev t x, evs t l with
    | some a, some b => some (a :: b)
    | _, _ => none

noncomputable def putT (t : BT) : Option Tmp → AV → BT
  | none, _ => t
  | some d, v => t.set d v
noncomputable def putK {R : Type} (t : BT) (d : Option Tmp) (v : AV) (k : BT → Option R) : Option R := match d with
  | none => k t
  | some d => t.setK d v k

def hset : List Blk → Nat → Blk → List Blk
  | [], _, x => [x]
  | _ :: l, 0, x => x :: l
  | a :: l, n + 1, x => a :: hset l n x
def applyWr : List Blk → List (Nat × Blk) → List Blk
  | h, [] => h
  | h, (b, x) :: l => applyWr (hset h b x) l

structure Res where
  v : AV
  rd : List Nat
  wr : List (Nat × Blk)

/-- What a variable of a type holds, given its cells. -/
def ofCells (P : Program) (t : TypeId) (l : List AV) : Option AV :=
  match P.underlying t with
  | some (.struct _) => some (.agg l)
  | some (.array _ _) => some (.agg l)
  | some _ => match l with
    | [v] => some v
    | _ => none
  | none => none
def isAggT (P : Program) (t : TypeId) : Bool :=
  match P.underlying t with
  | some (.struct _) => true
  | some (.array _ _) => true
  | _ => false
def sizeT (P : Program) (t : TypeId) : Option Nat := match P.info? t with
  | some i => some i.size
  | none => none
def zeroT (P : Program) (t : TypeId) : Option AV := match P.info? t with
  | some i => match i.zero with
    | some v => ofV v
    | none => none
  | none => none

/-- The kinds of the cells of a type whose values are compared cell by cell ('true': a whole number). -/
def kindsF (P : Program) (g : TypeId → Option (List Bool)) : List Field → Nat → Option (List Bool)
  | [], _ => some []
  | f :: fs, off => if f.name = "_" ∨ f.offset ≠ off then none else match g f.type with
    | some ks => if sizeT P f.type = some ks.length then match kindsF P g fs (off + ks.length) with
        | some r => some (ks ++ r)
        | none => none
      else none
    | none => none
def kindsT (P : Program) : Nat → TypeId → Option (List Bool)
  | 0, _ => none
  | d + 1, t => match P.underlying t with
    | some (.int _) => some [true]
    | some .bool => some [false]
    | some (.struct fs) => if P.stoodInHeld t = false then kindsF P (kindsT P d) fs.toList 0 else none
    | some (.array len e) => match kindsT P d e with
      | some ks => if sizeT P e = some ks.length then some ((List.replicate len ks).flatten) else none
      | none => none
    | _ => none
def eqK : List Bool → List AV → List AV → Option Bool
  | [], [], [] => some true
  | true :: ks, .int k x :: l, .int k' y :: m => if k = k' then match eqK ks l m with
      | some r => some (x == y && r)
      | none => none
    else none
  | false :: ks, .bool x :: l, .bool y :: m => match eqK ks l m with
    | some r => some (x == y && r)
    | none => none
  | _, _, _ => none
def eqAgg (P : Program) (t : TypeId) (l m : List AV) : Option Bool := match kindsT P 12 t with
  | some ks => if P.eqGuardType P.depth t = false ∧ isAggT P t = true then eqK ks l m else none
  | none => none

def aint (op : BinOp) (k : IntKind) (x y : Int) : Option (Bool × AV) :=
  match op with
  | .add => some (true, .int k (k.wrap (x + y)))
  | .sub => some (true, .int k (k.wrap (x - y)))
  | .mul => some (true, .int k (k.wrap (x * y)))
  | .quo => some (!decide (y = 0), .int k (k.wrap (x.tdiv y)))
  | .rem => some (!decide (y = 0), .int k (x.tmod y))
  | .and => some (true, .int k (k.wrap (BitVec.ofInt k.bits x &&& BitVec.ofInt k.bits y).toNat))
  | .or => some (true, .int k (k.wrap (BitVec.ofInt k.bits x ||| BitVec.ofInt k.bits y).toNat))
  | .xor => some (true, .int k (k.wrap (BitVec.ofInt k.bits x ^^^ BitVec.ofInt k.bits y).toNat))
  | .andNot => some (true, .int k (k.wrap (BitVec.ofInt k.bits x &&& ~~~BitVec.ofInt k.bits y).toNat))
  | .eql => some (true, .bool (x == y))
  | .neq => some (true, .bool (x != y))
  | .lss => some (true, .bool (decide (x < y)))
  | .leq => some (true, .bool (decide (x ≤ y)))
  | .gtr => some (true, .bool (decide (x > y)))
  | .geq => some (true, .bool (decide (x ≥ y)))
  | _ => none

def abin (P : Program) (op : BinOp) (t : TypeId) (a b : AV) : Option (Bool × AV) :=
  match op, a, b with
  | .shl, .int k x, .int _ y => some (decide (0 ≤ y), .int k (k.wrap (x * 2 ^ (min y.toNat k.bits))))
  | .shr, .int k x, .int _ y => some (decide (0 ≤ y), .int k (x.fdiv (2 ^ (min y.toNat k.bits))))
  | op, .int k x, .int k' y => if k = k' then aint op k x y else none
  | .eql, .bool x, .bool y => match P.underlying t with
    | some .bool => some (true, .bool (x == y))
    | _ => none
  | .neq, .bool x, .bool y => match P.underlying t with
    | some .bool => some (true, .bool (!(x == y)))
    | _ => none
  | .eql, .agg l, .agg m => match eqAgg P t l m with
    | some r => some (true, .bool r)
    | none => none
  | .neq, .agg l, .agg m => match eqAgg P t l m with
    | some r => some (true, .bool (!r))
    | none => none
  | _, _, _ => none

def aun (op : UnOp) (a : AV) : Option AV :=
  match op, a with
  | .neg, .int k n => some (.int k (k.wrap (0 - n)))
  | .not, .bool b => some (.bool !b)
  | _, _ => none

def pickA (c : Bool) : AV → AV → AV
  | .bool x, .bool y => .bool (cond c x y)
  | x, y => cond c x y

def fillA (place : Nat → Option (Nat × Nat)) (cells : List AV) : List (Nat × AV) → Option (List AV)
  | [] => some cells
  | (i, v) :: rest => match place i with
    | none => none
    | some (off, size) => if (cellsOf v).length = size ∧ off + size ≤ cells.length then fillA place (cells.take off ++ cellsOf v ++ cells.drop (off + size)) rest else none
def evParts (ρ : Operand → Option AV) : List (Nat × Operand) → Option (List (Nat × AV))
  | [] => some []
  | (i, x) :: l => match ρ x, evParts ρ l with
    | some v, some r => some ((i, v) :: r)
    | _, _ => none
def placesA (P : Program) (fs : List Field) (i : Nat) : Option (Nat × Nat) := match fs[i]? with
  | some f => match sizeT P f.type with
    | some n => some (f.offset, n)
    | none => none
  | none => none

def placesL (P : Program) : List Field → Option (List (Nat × Nat))
  | [] => some []
  | f :: fs => match sizeT P f.type, placesL P fs with
    | some n, some r => some ((f.offset, n) :: r)
    | _, _ => none
/-- The elements are of so many cells (if there is one). -/
def okSz (n : Nat) (f : Nat → AV) (size : Nat) : Bool := Nat.beq (cellsOf (f 0)).length size || Nat.beq n 0

def lst (l : List AV) (i : Nat) : AV := l.getD i (.tup [])
def app (n : Nat) (f g : Nat → AV) (i : Nat) : AV := cond (Nat.blt i n) (f i) (g (i - n))
/-- A row behind another. -/
def appF : Nat → (Nat → AV) → (Nat → AV) → Nat → AV
  | 0, _, g => g
  | n + 1, f, g => app (n + 1) f g

/-- The length of a slice, and its elements. -/
def rowOf : AV → Option (Nat × (Nat → AV))
  | .nils => some (0, lst [])
  | .ros _ n f => some (n, f)
  | .osl _ n f => some (n, f)
  | _ => none

def lenOfA : AV → Option Nat
  | .nils => some 0
  | .ros _ n _ => some n
  | .osl _ n _ => some n
  | .lsl _ n => some n
  | _ => none

/-- Rows of elements out of flat cells. -/
def chunk (agg : Bool) (size : Nat) (cells : List AV) (i : Nat) : AV :=
  cond agg (.agg ((cells.drop (i * size)).take size)) (cells.getD i (.tup []))

def AV.one : AV → Bool
  | .agg _ | .tup _ => false
  | _ => true
def oneL : List AV → Bool
  | [] => true
  | a :: l => a.one && oneL l

/-- A key of a map: a whole number, or a struct of whole numbers and booleans. -/
def keyF (P : Program) (n : Nat) (f : Field) : Bool := Nat.blt f.offset n && match P.underlying f.type, sizeT P f.type with
  | some (.int _), some 1 => true
  | some .bool, some 1 => true
  | _, _ => false
def keyV (P : Program) (kt : TypeId) : AV → Bool
  | .int _ _ => match P.underlying kt with
    | some (.int _) => true
    | _ => false
  | .agg l => match P.underlying kt with
    | some (.struct fs) => fs.toList.all (keyF P l.length)
    | _ => false
  | _ => false
def keyEq (P : Program) (kt : TypeId) : AV → AV → Option Bool
  | .int k n, .int k' n' => if k = k' then some (n == n') else none
  | .agg l, .agg m => eqAgg P kt l m
  | _, _ => none
def freshK (eq : AV → Option Bool) : List (AV × AV) → Bool
  | [] => true
  | (a, _) :: l => match eq a with
    | some b => !b && freshK eq l
    | none => false
def insA (P : Program) (t : TypeId) (H : Nat → Option Blk) (m k x : Option AV) : Option (Bool × Res) := match m, k, x, P.underlying t with
  | some (.map b), some key, some a, some (.map kt _) => match H b with
    | some (.map es) => if keyV P kt key = true ∧ freshK (keyEq P kt key) es = true ∧ a.pureB = true then some (true, ⟨.tup [], [b], [(b, .map (es ++ [(key, a)]))]⟩) else none
    | _ => none
  | _, _, _, _ => none

def aop (P : Program) (ρ : Operand → Option AV) (H : Nat → Option Blk) (slot : Nat) (o : Oper) : Option (Bool × Res) :=
  let v (x : Option AV) : Option (Bool × Res) := match x with
    | some a => some (true, ⟨a, [], []⟩)
    | none => none
  match o.op with
  | .move x => v (ρ x)
  | .assign x => v (ρ x)
  | .pick c a b => match ρ c, ρ a, ρ b with
    | some (.bool t), some x, some y => v (some (pickA t x y))
    | _, _, _ => none
  | .alloc t => match zeroT P t with
    | some z => some (true, ⟨.ptr slot 0, [], [(slot, .cells (cellsOf z))]⟩)
    | none => none
  | .box t x => match ρ x with
    | some z => some (true, ⟨.ptr slot 0, [], [(slot, .cells (cellsOf z))]⟩)
    | none => none
  | .build t parts => match zeroT P t, evParts ρ parts.toList, P.underlying t with
    | some z, some ps, some (.struct fs) => match placesL P fs.toList with
      | some pl => match fillA (fun i => pl[i]?) (cellsOf z) ps with
        | some l => v (some (.agg l))
        | none => none
      | none => none
    | some z, some ps, some (.array _ e) => match sizeT P e with
      | some n => match fillA (fun i => some (i * n, n)) (cellsOf z) ps with
        | some l => v (some (.agg l))
        | none => none
      | none => none
    | _, _, _ => none
  | .buildSlice t len parts => match P.underlying t with
    | some (.slice e) => match sizeT P e, zeroT P e, evParts ρ parts.toList with
      | some n, some z, some ps => match fillA (fun i => some (i * n, n)) ((List.replicate len (cellsOf z)).flatten) ps with
        | some l => if len * n ≤ 4096 ∧ (cellsOf z).length = n ∧ (isAggT P e = true ∨ n = 1) ∧ 0 < n ∧ oneL l = true then cond (AV.pureL (AV.stripL l)) (v (some (.ros true len (chunk (isAggT P e) n (AV.stripL l))))) (some (true, ⟨.lsl slot len, [], [(slot, .cells l)]⟩)) else none
        | none => none
      | _, _, _ => none
    | _ => none
  | .load t x => match ρ x, sizeT P t with
    | some (.ptr b off), some n => match H b with
      | some (.cells l) => if off + n ≤ l.length then match ofCells P t ((l.drop off).take n) with
          | some a => some (true, ⟨a, [b], []⟩)
          | none => none
        else none
      | _ => none
    | some (.rop m f i c), some n => match f i with
      | .agg l => if c + n ≤ l.length then v (ofCells P t ((l.drop c).take n)) else none
      | a => if c = 0 ∧ n = 1 then v (ofCells P t [a]) else none
    | _, _ => none
  | .store t x y => match ρ x, ρ y, sizeT P t with
    | some (.ptr b off), some a, some n => match H b with
      | some (.cells l) => if off + n ≤ l.length ∧ (cellsOf a).length = n ∧ oneL (cellsOf a) = true then some (true, ⟨.tup [], [b], [(b, .cells (l.take off ++ cellsOf a ++ l.drop (off + n)))]⟩) else none
      | _ => none
    | _, _, _ => none
  | .nilCheck x => match ρ x with
    | some (.ptr b c) => v (some (.ptr b c))
    | some (.rop n f i c) => v (some (.rop n f i c))
    | some (.fn (.func g) a b) => v (some (.fn (.func g) a b))
    | _ => none
  | .binOp op t x y _ => match ρ x, ρ y with
    | some a, some b => match abin P op t a b with
      | some (c, r) => some (c, ⟨r, [], []⟩)
      | none => none
    | _, _ => none
  | .unOp op _ x => match ρ x with
    | some a => v (aun op a)
    | none => none
  | .convert src dst x => match P.underlying src, P.underlying dst, ρ x with
    | some _, some (.int k), some (.int _ n) => v (some (.int k (k.wrap n)))
    | _, _, _ => none
  | .makeInterface t x => match P.underlying t, ρ x with
    | some (.interface _), _ => none
    | some _, some a => v (some (.ifc t a))
    | _, _ => none
  | .makeFunc f first caps => match (evs2 ρ first.toList), (evs2 ρ caps.toList) with
    | some a, some b => v (some (.fn f a b))
    | _, _ => none
  | .makeMap t none => some (true, ⟨.map slot, [], [(slot, .map [])]⟩)
  | .insert t m k x => insA P t H (ρ m) (ρ k) (ρ x)
  | .mapUpdate t m k x => insA P t H (ρ m) (ρ k) (ρ x)
  | .slice t x lo hi none => match P.underlying t, ρ x with
    | some (.slice e), some a => match rowOf a, (match lo with | none => some (0 : Int) | some e => idx (ρ e)), sizeT P e with
      | some (n, f), some l, some z => match (match hi with | none => some (n : Int) | some e => idx (ρ e)) with
        | some h => some (decide (0 ≤ l) && decide (l ≤ h) && decide (h ≤ n) && okSz n f z, ⟨.ros false (h - l).toNat (fun i => f (l.toNat + i)), [], []⟩)
        | none => none
      | _, _, _ => none
    | some (.array n e), some (.ptr b 0) => match lo, hi, sizeT P e with
      | none, none, some _ => v (some (.lsl b n))
      | _, _, _ => none
    | _, _ => none
  | .fieldAddr t x i => match P.underlying t, ρ x with
    | some (.struct fs), some a => match placesA P fs.toList i with
      | some (off, n) => if n = 0 then none else match a with
        | .ptr b c => v (some (.ptr b (c + off)))
        | .rop m f j c => v (some (.rop m f j (c + off)))
        | _ => none
      | none => none
    | _, _ => none
  | .field t x i => match P.underlying t, ρ x with
    | some (.struct fs), some (.agg l) => match fs.toList[i]? with
      | some f => match sizeT P f.type with
        | some n => if f.offset + n ≤ l.length then v (ofCells P f.type ((l.drop f.offset).take n)) else none
        | none => none
      | none => none
    | _, _ => none
  | .indexAddr t x i => match P.underlying t, ρ x, idx (ρ i) with
    | some (.array len e), some (.ptr b c), some j => match sizeT P e with
      | some n => some (decide (0 ≤ j) && decide (j < len), ⟨.ptr b (c + j.toNat * n), [], []⟩)
      | none => none
    | some (.slice e), some (.lsl b n), some j => match sizeT P e with
      | some z => some (decide (0 ≤ j) && decide (j < n), ⟨.ptr b (j.toNat * z), [], []⟩)
      | none => none
    | some (.slice e), some a, some j => match rowOf a, sizeT P e with
      | some (n, f), some z => some (decide (0 ≤ j) && decide (j < n) && okSz n f z, ⟨.rop n f j.toNat 0, [], []⟩)
      | _, _ => none
    | _, _, _ => none
  | .index t x i => match P.underlying t, ρ x, idx (ρ i) with
    | some (.array len e), some (.agg l), some j => match sizeT P e with
      | some n => if l.length = len * n then match ofCells P e ((l.drop (j.toNat * n)).take n) with
          | some a => some (decide (0 ≤ j) && decide (j < len), ⟨a, [], []⟩)
          | none => none
        else none
      | none => none
    | _, _, _ => none
  | .typeAssert x xt t ok => match ρ x, P.underlying t with
    | _, some (.interface _) => none
    | some (.ifc d a), some _ => if d = t then v (some (cond ok (.tup [a, .bool true]) a)) else match ok, zeroT P t with
      | true, some z => v (some (.tup [z, .bool false]))
      | _, _ => none
    | some .nili, some _ => match ok, zeroT P t with
      | true, some z => v (some (.tup [z, .bool false]))
      | _, _ => none
    | _, _ => none
  | .extract x i => match ρ x with
    | some (.tup l) => v l[i]?
    | _ => none
  | .call c => match c.callee with
    | .builtin .len => match c.argTypes[0]?, (c.args[0]?).bind ρ with
      | some t, some a => match P.underlying t, lenOfA a with
        | some (.slice _), some n => v (some (.int .i64 n))
        | _, _ => none
      | _, _ => none
    | .builtin .max => match evs2 ρ c.args.toList with
      | some [.int k x, .int k' y] => if k = k' then v (some (.int k (if y > x then y else x))) else none
      | _ => none
    | .builtin .min => match evs2 ρ c.args.toList with
      | some [.int k x, .int k' y] => if k = k' then v (some (.int k (if y < x then y else x))) else none
      | _ => none
    | .builtin .append => match evs2 ρ c.args.toList, c.argTypes.toList with
      | some [a, b], t :: u :: _ => match P.underlying t, P.underlying u, rowOf a, rowOf b with
        | some (.slice e), some (.slice _), some (n, f), some (m, g) => match P.info? e, zeroT P e with
          | some i, some z => match canAppend H a with
            | some (r, kill) => some (decide ((n + m) * (i.bytes + i.size) < 2 ^ 40) && okSz n f i.size && okSz m g i.size && Nat.ble 1 i.size && Nat.ble 1 i.bytes && Nat.beq (cellsOf z).length i.size, ⟨.osl slot (n + m) (appF n f g), r, kill ++ [(slot, .own)]⟩)
            | none => none
          | _, _ => none
        | _, _, _, _ => none
      | _, _ => none
    | _ => none
  | _ => none
where
  evs2 (ρ : Operand → Option AV) : List Operand → Option (List AV)
    | [] => some []
    | x :: l => match ρ x, evs2 ρ l with
      | some a, some b => some (a :: b)
      | _, _ => none
  idx : Option AV → Option Int
    | some (.int _ n) => some n
    | _ => none
  canAppend (H : Nat → Option Blk) : AV → Option (List Nat × List (Nat × Blk))
    | .nils => some ([], [])
    | .ros true _ _ => some ([], [])
    | .osl b _ _ => match H b with
      | some .own => some ([b], [(b, .dead)])
      | _ => none
    | _ => none

inductive Ex where
  | normal
  | ret
  | exit (id : Nat)

section
variable {R : Type}

noncomputable def wantC (ops : Array Oper) (t : BT) (o : Oper) (k : BT → Bool → Option R) : Option R :=
  match o.guard with
  | none => k t true
  | some (j, want) => match (ops[j]?).bind (·.dst) with
    | none => k t false
    | some d => match t.get d with
      | some (.bool b) => cond b (t.setK d (.bool true) fun t => k t want) (t.setK d (.bool false) fun t => k t (!want))
      | some _ => k t false
      | none => none

/-- A look-up. -/
def lookC (eq : AV → Option Bool) (es : List (AV × AV)) (k : Option AV → Option R) : Option R :=
  match es with
  | [] => k none
  | (b, a) :: l => match eq b with
    | some c => cond c (k (some a)) (lookC eq l k)
    | none => none

/-- A number written out (where all is closed: 'cl'). -/
def forceN : Nat → (Nat → Option R) → Option R
  | 0, k => k 0
  | n + 1, k => k (n + 1)
def forceI : Int → (Int → Option R) → Option R
  | .ofNat n, k => forceN n fun n => k (.ofNat n)
  | .negSucc n, k => forceN n fun n => k (.negSucc n)
def forceB : Bool → (Bool → Option R) → Option R
  | true, k => k true
  | false, k => k false
def forceA (cl : Bool) (v : AV) (q : AV → Option R) : Option R := match cl with
  | false => q v
  | true => match v with
    | .int k n => forceI n fun n => q (.int k n)
    | .bool b => forceB b fun b => q (.bool b)
    | v => q v
noncomputable def forceL (l : List AV) : (List AV → Option R) → Option R :=
  List.rec (motive := fun _ => (List AV → Option R) → Option R) (fun k => k []) (fun a _ ih k => ih fun l' => k (a :: l')) l
noncomputable def forceBk : Blk → (Blk → Option R) → Option R
  | .cells l, k => forceL l fun l => k (.cells l)
  | b, k => k b
noncomputable def forceH (l : List Blk) : (List Blk → Option R) → Option R :=
  List.rec (motive := fun _ => (List Blk → Option R) → Option R) (fun k => k []) (fun b _ ih k => forceBk b fun b => ih fun l' => k (b :: l')) l

/-- The look-up at once. -/
def lookD (eq : AV → Option Bool) : List (AV × AV) → Option (Option AV)
  | [] => some none
  | (b, a) :: l => match eq b with
    | some c => cond c (some (some a)) (lookD eq l)
    | none => none

abbrev CallC (R : Type) := FuncId → List AV → List Blk → (AV → List Blk → Option R) → Option R

noncomputable def callee (t : BT) (c : Call) : Option (FuncId × List AV) :=
  match c.callee with
  | .value f => match ev t f, evs t c.args.toList with
    | some (.fn (.func g) first caps), some as => some (g, first ++ as ++ caps)
    | _, _ => none
  | _ => none

noncomputable def opC (P : Program) (cl : Bool) (call : CallC R) (slot : Nat) (o : Oper) (s : St) (k : St → Res → Option R) : Option R :=
  let plain : Option R := match aop P (ev s.t) (fun b => s.h[b]?) slot o with
    | some (c, r) => cond c (forceA cl r.v fun v => putK s.t o.dst v fun t => k { s with t := t, h := applyWr s.h r.wr } r) none
    | none => none
  match o.op with
  | .call c => match c.callee with
    | .builtin _ => plain
    | _ => match callee s.t c with
      | some (f, as) => call f as s.h fun v h => putK s.t o.dst v fun t => k { s with t := t, h := h } ⟨v, [], []⟩
      | none => none
  | .defer c => match callee s.t c with
    | some x => putK s.t o.dst (.tup []) fun t => k { s with t := t, d := x :: s.d } ⟨.tup [], [], []⟩
    | none => none
  | .lookup t m i ok => match ev s.t m, ev s.t i, P.underlying t with
    | some (.map b), some key, some (.map kt et) => match s.h[b]?, zeroT P et with
      | some (.map es), some z => if keyV P kt key then lookC (keyEq P kt key) es fun r =>
          let v := match r with
            | some a => cond ok (.tup [a, .bool true]) a
            | none => cond ok (.tup [z, .bool false]) z
          putK s.t o.dst v fun t => k { s with t := t } ⟨v, [b], []⟩
        else none
      | _, _ => none
    | _, _, _ => none
  | _ => plain

/-- The operations of a region, in the order of the text. -/
noncomputable def opsC (P : Program) (cl : Bool) (call : CallC R) (ops : Array Oper) : List Oper → St → (St → Option R) → Option R
  | [], s, k => k s
  | o :: l, s, k => wantC ops s.t o fun t w =>
      if w then opC P cl call s.h.length o { s with t := t } fun s' _ => opsC P cl call ops l s' k
      else putK t o.dst (.tup []) fun t => opsC P cl call ops l { s with t := t } k

/-- Does an operation of a region that draws make a block? -/
def allocs (o : Oper) : Bool := match o.op with
  | .alloc _ | .box _ _ | .makeMap _ _ | .buildSlice _ _ _ => true
  | .call c => match c.callee with
    | .builtin .append => true
    | _ => false
  | _ => false
/-- A call of a function that is a value. -/
def isTmp (o : Oper) : Bool := match o.op with
  | .call c => match c.callee with
    | .value (.tmp _) => true
    | _ => false
  | _ => false
def isCall (o : Oper) : Bool := match o.op with
  | .call c => match c.callee with
    | .builtin _ => false
    | _ => true
  | _ => false
def writes0 (o : Oper) : Bool := match o.op with
  | .store _ _ _ | .insert _ _ _ _ | .mapUpdate _ _ _ _ => true
  | .call c => match c.callee with
    | .builtin .append => true
    | _ => false
  | _ => false
def writes (o : Oper) : Bool := isTmp o || writes0 o
def touches (o : Oper) : Bool := writes o || allocs o || isCall o || match o.op with
  | .load _ _ | .lookup _ _ _ _ => true
  | _ => false
/-- Which operations lie ahead of each one in every order (as the bits of a number). -/
def ahead (ms : List Nat) (o : Oper) : Nat := o.after.toList.foldl (fun m e => if Region.binds .any e then m ||| 2 ^ e.on ||| ms.getD e.on 0 else m) 0
def aheads : List Oper → List Nat → List Nat
  | [], ms => ms
  | o :: l, ms => aheads l (ms ++ [ahead ms o])
/-- Two operations that touch memory, one of them writes, and neither lies ahead of the other in every order. -/
def loose (ms : List Nat) (o p : Oper) (j i : Nat) : Bool := Nat.blt i j && touches o && touches p && (writes o || writes p) && !Nat.testBit (ms.getD j 0) i
/-- A region that draws: one walk serves every order. -/
def drOK (ops : Array Oper) : Bool :=
  let ms := aheads ops.toList []
  Region.lexB .any ops && (ops.toList.zipIdx.all fun (o, j) => ops.toList.zipIdx.all fun (p, i) => !loose ms o p j i || (!isCall o && !isCall p))
/-- The pairs that must not meet in a block. -/
def pairs (ops : Array Oper) : List (Nat × Nat) :=
  let ms := aheads ops.toList []
  (ops.toList.zipIdx.map fun (o, j) => if touches o then ((ops.toList.zipIdx.filter fun (p, i) => loose ms o p j i).map fun (_, i) => (i, j)) else []).flatten
def disj (x y : List Nat × List Nat) : Bool := x.2.all (fun b => !y.1.any (Nat.beq b) && !y.2.any (Nat.beq b)) && y.2.all (fun b => !x.1.any (Nat.beq b))
def pairsOK (fps : List (List Nat × List Nat)) : List (Nat × Nat) → Bool
  | [] => true
  | (i, j) :: l => disj (fps.getD i ([], [])) (fps.getD j ([], [])) && pairsOK fps l
def codeOK : Code → Bool
  | .seq a b => codeOK a && codeOK b
  | .cond _ a b => codeOK a && codeOK b
  | .block _ c => codeOK c
  | .loop c => codeOK c
  | .region _ ops true => drOK ops
  | _ => true
def drawable (o : Oper) : Bool := match o.op with
  | .defer _ => false
  | _ => true

/-- A region that draws: in the order of the text, new blocks in slots laid ahead (from 'base' on); what is read lies below them, or is written. -/
noncomputable def drawC (P : Program) (cl : Bool) (call : Bool → CallC R) (ops : Array Oper) (base : Nat) : List Oper → Nat → St → List (List Nat × List Nat) → (St → List (List Nat × List Nat) → Option R) → Option R
  | [], _, s, fps, k => k s fps
  | o :: l, slot, s, fps, k => if drawable o then wantC ops s.t o fun t w =>
      if w then opC P cl (call (isTmp o)) slot o { s with t := t } fun s' r => if (writes o || r.rd.all (Nat.blt · base)) && (touches o || r.rd.isEmpty) then drawC P cl call ops base l (if allocs o then slot + 1 else slot) s' (fps ++ [(r.rd, r.wr.map (·.1))]) k else none
      else putK t o.dst (.tup []) fun t => drawC P cl call ops base l (if allocs o then slot + 1 else slot) { s with t := t } (fps ++ [([], [])]) k
    else none

/-- A pointer to a block, told as one to a row that nobody writes (while a call lasts). -/
def frz (base : Nat) (h : List Blk) : AV → AV
  | .ptr b off => match Nat.blt b base, h[b]? with
    | true, some (.cells l) => cond (oneL l && AV.pureL (AV.stripL l)) (.rop 1 (fun _ => .agg (AV.stripL l)) 0 off) (.ptr b off)
    | _, _ => .ptr b off
  | v => v
def frzA (base : Nat) (h : List Blk) : AV → AV
  | .fn g a b => .fn g (a.map (frz base h)) (b.map (frz base h))
  | v => frz base h v
/-- A call in a region that draws, its answer reckoned at once: of a pure function; of one that reads what its pointers point to; of whatever function ('imp'). -/
def callD (pure : FuncId → Bool) (call0 : CallC (AV × List Blk)) (base : Nat) (imp : Bool) : CallC R := fun f as h k =>
  if AV.pureL (AV.stripL as) && pure f then match call0 f (AV.stripL as) [] (fun v h => some (v, h)) with
    | some (v, _) => if v.strip.pureB then k v.strip h else none
    | none => none
  else if imp then match call0 f as h (fun v h => some (v, h)) with
    | some (v, h') => if Nat.ble h.length h'.length then k v h' else none
    | none => none
  else if AV.pureL ((AV.stripL as).map (frzA base h)) then match call0 f ((AV.stripL as).map (frzA base h)) [] (fun v h => some (v, h)) with
    | some (v, _) => if v.flatB then k v h else none
    | none => none
  else none

noncomputable def goRegion (P : Program) (cl : Bool) (pure : FuncId → Bool) (call0 : CallC (AV × List Blk)) (call : CallC R) (ops : Array Oper) (draw : Bool) (s : St) (k : Ex → St → Option R) : Option R :=
  match draw with
  | false => opsC P cl call ops ops.toList s fun s' => forceH s'.h fun h => k .normal { s' with h := h }
  | true => drawC P cl (callD pure call0 s.h.length) ops s.h.length ops.toList s.h.length { s with h := s.h ++ List.replicate (ops.toList.filter allocs).length .dead } [] fun s' fps => cond (pairsOK fps (pairs ops)) (forceH s'.h fun h => k .normal { s' with h := h }) none

noncomputable def loopC (body : St → (Ex → St → Option R) → Option R) : Nat → St → (Ex → St → Option R) → Option R :=
  Nat.rec (motive := fun _ => St → (Ex → St → Option R) → Option R) (fun _ _ => none) (fun _ ih s k => body s fun e s' => match e with
    | .normal => ih s' k
    | .ret => k .ret s'
    | .exit i => k (.exit i) s')

noncomputable def goC (P : Program) (cl : Bool) (pure : FuncId → Bool) (call0 : CallC (AV × List Blk)) (call : CallC R) (fuel : Nat) (c : Code) : St → (Ex → St → Option R) → Option R :=
  Code.rec (motive := fun _ => St → (Ex → St → Option R) → Option R)
    (fun s k => k .normal s)
    (fun _ ops draw s k => goRegion P cl pure call0 call ops draw s k)
    (fun _ _ ga gb s k => ga s fun e s' => match e with
      | .normal => gb s' k
      | .ret => k .ret s'
      | .exit i => k (.exit i) s')
    (fun c _ _ ga gb s k => match ev s.t c with
      | some (.bool x) => cond x (ga s k) (gb s k)
      | _ => none)
    (fun id _ g s k => g s fun e s' => match e with
      | .exit i => cond (Nat.beq i id) (k .normal s') (k (.exit i) s')
      | .normal => k .normal s'
      | .ret => k .ret s')
    (fun _ g s k => loopC g fuel s k)
    (fun _ _ _ _ _ _ _ _ => none)
    (fun id s k => k (.exit id) s)
    (fun _ _ _ _ => none)
    (fun _ s k => k .normal s)
    (fun _ _ _ => none)
    (fun s k => k .ret s)
    (fun _ _ _ => none) c

noncomputable def resA (P : Program) (s : St) : List ResultVar → Option (List AV)
  | [] => some []
  | .tmp t :: l => match resA P s l with
    | some r => match s.t.get t with
      | some v => some (v :: r)
      | none => none
    | none => none
  | .cell a t :: l => match s.t.get a, sizeT P t, resA P s l with
    | some (.ptr b off), some n, some r => match s.h[b]? with
      | some (.cells c) => if off + n ≤ c.length then match ofCells P t ((c.drop off).take n) with
          | some v => some (v :: r)
          | none => none
        else none
      | _ => none
    | _, _, _ => none
def oneA : List AV → AV
  | [v] => v
  | l => .tup l

/-- What is deferred, last first. -/
def defersC (call : CallC R) : List (FuncId × List AV) → List Blk → (List Blk → Option R) → Option R
  | [], h, k => k h
  | (f, as) :: l, h, k => call f as h fun _ h' => defersC call l h' k

/-- What a pure call hands on: at most one slice that may be appended to. -/
def export1 : AV → List Blk → Option (AV × Bool)
  | .osl b n f, h => match h[b]? with
    | some .own => some (.osl 0 n f, true)
    | _ => some (.ros false n f, false)
  | .tup (.osl b n f :: l), h => if AV.pureL (AV.stripL l) then match h[b]? with
      | some .own => some (.tup (.osl 0 n f :: AV.stripL l), true)
      | _ => some (.tup (.ros false n f :: AV.stripL l), false)
    else none
  | v, _ => if v.strip.pureB then some (v.strip, false) else none
def import1 (h : List Blk) : AV → Bool → AV × List Blk
  | .osl _ n f, true => (.osl h.length n f, h ++ [.own])
  | .tup (.osl _ n f :: l), true => (.tup (.osl h.length n f :: l), h ++ [.own])
  | v, _ => (v, h)
end

/-- The contracts that stand already: what must hold; a pure function's answer; may it be appended to? -/
abbrev Table := FuncId → Option (List AV → Option (Bool × AV × Bool))

/-- A function's body that defers nothing. -/
noncomputable def bodyN {R : Type} (P : Program) (cl : Bool) (pure : FuncId → Bool) (call0 : CallC (AV × List Blk)) (call : CallC R) (fuel : Nat) (fn : Func) (c : Code) (as : List AV) (h : List Blk) (k : AV → List Blk → Option R) : Option R :=
  goC P cl pure call0 call fuel c ⟨BT.args as 0 (BT.mk fn.ntmps (Nat.log2 fn.ntmps + 1) 0), h, []⟩ fun e s => match e with
    | .exit _ => none
    | _ => match s.d with
      | [] => match resA P s fn.results.toList with
        | some r => k (oneA r) s.h
        | none => none
      | _ :: _ => none
/-- A deferred call. -/
noncomputable def dcall {R : Type} (P : Program) (cl : Bool) (ok pure : FuncId → Bool) (call0 : CallC (AV × List Blk)) (call : CallC R) (fuel : Nat) : CallC R := fun f as h k =>
  if ok f then match P.funcs[f]? with
    | none => none
    | some fn => match fn.body with
      | none => none
      | some c => bodyN P cl pure call0 call fuel fn c as h k
  else none
/-- A function's body. -/
noncomputable def bodyC {R : Type} (P : Program) (cl : Bool) (ok pure : FuncId → Bool) (call0 : CallC (AV × List Blk)) (call : CallC R) (fuel : Nat) (fn : Func) (c : Code) (as : List AV) (h : List Blk) (k : AV → List Blk → Option R) : Option R :=
  goC P cl pure call0 call fuel c ⟨BT.args as 0 (BT.mk fn.ntmps (Nat.log2 fn.ntmps + 1) 0), h, []⟩ fun e s => match e with
    | .exit _ => none
    | _ => defersC (dcall P cl ok pure call0 call fuel) s.d s.h fun h' => match resA P { s with h := h' } fn.results.toList with
      | some r => k (oneA r) h'
      | none => none

/-- One call, where what is called by it is known. -/
noncomputable def runStep {R : Type} (P : Program) (cl : Bool) (Γ : Table) (ok imp : FuncId → Bool) (n : Nat) (call0 : CallC (AV × List Blk)) (call : CallC R) : CallC R := fun f as h k =>
  match Γ f with
  | some c => match c (AV.stripL as) with
    | some (b, v, o) => if AV.pureL (AV.stripL as) then cond b (k (import1 h v o).1 (import1 h v o).2) none else none
    | none => none
  | none => if ok f then match P.funcs[f]? with
    | none => none
    | some fn => match fn.body with
      | none => none
      | some c =>
        if AV.pureL (AV.stripL as) && !imp f then bodyC P cl ok (fun g => !imp g) call0 call n fn c (AV.stripL as) [] fun v h' => match export1 v h' with
          | some (u, o) => k (import1 h u o).1 (import1 h u o).2
          | none => none
        else bodyC P cl ok (fun g => !imp g) call0 call n fn c as h k
    else none

noncomputable def run0 (P : Program) (cl : Bool) (Γ : Table) (ok imp : FuncId → Bool) (n : Nat) : CallC (AV × List Blk) :=
  Nat.rec (motive := fun _ => CallC (AV × List Blk)) (fun _ _ _ _ => none) (fun n ih => runStep P cl Γ ok imp n ih ih) n
/-- A call. 'ok': functions whose regions are checked; 'imp': functions whose answer names blocks of their own. -/
noncomputable def run {R : Type} (P : Program) (cl : Bool) (Γ : Table) (ok imp : FuncId → Bool) (n : Nat) : CallC R :=
  Nat.rec (motive := fun _ => CallC R) (fun _ _ _ _ => none) (fun n ih => runStep P cl Γ ok imp n (run0 P cl Γ ok imp n) ih) n

end Go.Proofs.Ytdhlbfhfenomcaa.Ab
