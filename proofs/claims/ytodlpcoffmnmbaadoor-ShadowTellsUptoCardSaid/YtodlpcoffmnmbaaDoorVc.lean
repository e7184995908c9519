/-
  Own work. The value machine, part C: operations upon plain data, as plain functions.
-/
import Derived.Test.YtodlpcoffmnmbaaDoorVb
namespace Go.YtodlpcoffmnmbaaDoor
open Go

/-- A value that has been told has a property. -/
def holds {α : Type} (o : Option α) (K : α → Prop) : Prop := ∃ x, o = some x ∧ K x
@[simp] theorem holds_some {α : Type} (a : α) (K : α → Prop) : holds (some a) K = K a := by simp [holds]
@[simp] theorem holds_none {α : Type} (K : α → Prop) : holds (none : Option α) K = False := by simp [holds]
@[simp] theorem holds_ite {α : Type} (c : Prop) [Decidable c] (o : Option α) (K : α → Prop) : holds (if c then o else none) K = (c ∧ holds o K) := by
  by_cases h : c <;> simp [h]
@[simp] theorem holds_bind {α β : Type} (o : Option α) (f : α → Option β) (K : β → Prop) : holds (o.bind f) K = holds o (fun a => holds (f a) K) := by
  cases o <;> simp
@[simp] theorem holds_map {α β : Type} (o : Option α) (f : α → β) (K : β → Prop) : holds (o.map f) K = holds o (fun a => K (f a)) := by
  cases o <;> simp
theorem holds_ite' {α : Type} (c : Prop) [Decidable c] (o p : Option α) (K : α → Prop) : holds (if c then o else p) K = ((c → holds o K) ∧ (¬ c → holds p K)) := by
  by_cases h : c <;> simp [h]
theorem holds.mono {α : Type} {o : Option α} {K K' : α → Prop} (h : holds o K) (hk : ∀ a, K a → K' a) : holds o K' := by
  obtain ⟨x, h1, h2⟩ := h; exact ⟨x, h1, hk _ h2⟩

/-- A constant as plain data: a cell, and any. -/
def dOfV1 : Value → D
  | .bool b => .bool b
  | .int k n => .int k n
  | .string s => .str s
  | .pointer none => .nilp
  | .slice none 0 0 => .nils
  | .nilFunc => .nilf
  | .nilIface => .nili
  | _ => .any
def dOfV : Value → D
  | .agg cs => .agg (cs.toList.map dOfV1)
  | v => dOfV1 v

/-- An operand. -/
inductive AO where
  | t (n : Nat)
  | c (d : D)

def ev (t : List D) : AO → D
  | .t n => t.getD n .any
  | .c d => d

/-- Is it a value of one cell? -/
def D.one : D → Bool
  | .any | .agg _ | .tup _ => false
  | _ => true
def vcells : D → List D
  | .agg cs => cs
  | d => [d]
/-- Can its cells be laid? -/
def laid : D → Bool
  | .agg cs => cs.all D.one
  | d => d.one

def ptrCells (h : Heap) : D → Option (List D)
  | .fptr cs => some cs
  | .ref r off => match h[r]? with
    | some (.box cs) | some (.icebox cs) => some (cs.drop off)
    | _ => none
  | .eref r n off => match h[r]? with
    | some (.grow _ cs len) | some (.ice _ cs len) => if n = len then some (cs.drop off) else none
    | _ => none
  | _ => none

/-- A slice's cells (all from its first one on that are known), and how many elements it has. -/
def slCells (h : Heap) (sz : Nat) : D → Option (List D × Nat)
  | .nils => some ([], 0)
  | .sl cs n _ => if n * sz ≤ cs.length then some (cs.take (n * sz), n) else none
  | .own r n => match h[r]? with
    | some (.grow sz' cs len) | some (.ice sz' cs len) => if n = len ∧ sz' = sz then some (cs, n) else none
    | _ => none
  | .osl r n off k => match h[r]? with
    | some (.grow sz' cs len) | some (.ice sz' cs len) => if n = len ∧ sz' = sz ∧ off + k * sz ≤ cs.length then some ((cs.drop off).take (k * sz), k) else none
    | _ => none
  | .bsl r off k => match h[r]? with
    | some (.box cs) | some (.icebox cs) => if off + k * sz ≤ cs.length then some ((cs.drop off).take (k * sz), k) else none
    | _ => none
  | _ => none

def loadCs (ag : Option Nat) (cs : List D) : Option D :=
  match ag with
  | none => cs[0]?
  | some n => if n ≤ cs.length then some (.agg (cs.take n)) else none

/-- What lies from a place on, and other cells there. -/
def splice (cs : List D) (off : Nat) : List D → List D
  | [v] => cs.set off v
  | vs => cs.take off ++ vs ++ cs.drop (off + vs.length)

def storeAt (h : Heap) (x : D) (vs : List D) : Option Heap :=
  match x with
  | .ref r off => match h[r]? with
    | some (.box cs) => if off + vs.length ≤ cs.length then some (h.set r (.box (splice cs off vs))) else none
    | _ => none
  | .eref r n off => match h[r]? with
    | some (.grow sz cs len) => if n = len ∧ off + vs.length ≤ cs.length then some (h.set r (.grow sz (splice cs off vs) len)) else none
    | _ => none
  | _ => none

/-- The kinds of scalars of which equality asks. -/
inductive SK where
  | kb | ki | ks
/-- Equality of scalars, cell by cell. -/
def D.eqk : SK → D → D → Option Bool
  | .kb, .bool a, .bool b => some (a == b)
  | .ki, .int k a, .int k' b => if k = k' then some (a == b) else none
  | .ks, .str a, .str b => some (a.toList == b.toList)
  | _, _, _ => none
def eqCells : List SK → List D → List D → Option Bool
  | [], [], [] => some true
  | k :: ks, x :: xs, y :: ys => (D.eqk k x y).bind fun b => (eqCells ks xs ys).map fun c => b && c
  | _, _, _ => none
/-- Bits of whole numbers, as the machine has them. -/
def ibits (op : BinOp) (k : IntKind) (x y : Int) : Option Int :=
  match op with
  | .and => some (k.wrap (BitVec.ofInt k.bits x &&& BitVec.ofInt k.bits y).toNat)
  | .or => some (k.wrap (BitVec.ofInt k.bits x ||| BitVec.ofInt k.bits y).toNat)
  | .xor => some (k.wrap (BitVec.ofInt k.bits x ^^^ BitVec.ofInt k.bits y).toNat)
  | .andNot => some (k.wrap (BitVec.ofInt k.bits x &&& ~~~ BitVec.ofInt k.bits y).toNat)
  | _ => none

def arith (op : BinOp) : D → D → Option D
  | .int k a, .int k' b =>
    match op with
    | .shl => if 0 ≤ b then some (.int k (k.wrap (a * 2 ^ (min b.toNat k.bits)))) else none
    | .shr => if 0 ≤ b then some (.int k (a.fdiv (2 ^ (min b.toNat k.bits)))) else none
    | .add => if k = k' then some (.int k (k.wrap (a + b))) else none
    | .sub => if k = k' then some (.int k (k.wrap (a - b))) else none
    | .mul => if k = k' then some (.int k (k.wrap (a * b))) else none
    | .quo => if k = k' ∧ ¬ b = 0 then some (.int k (k.wrap (a.tdiv b))) else none
    | .rem => if k = k' ∧ ¬ b = 0 then some (.int k (a.tmod b)) else none
    | .eql => if k = k' then some (.bool (a == b)) else none
    | .neq => if k = k' then some (.bool (a != b)) else none
    | .lss => if k = k' then some (.bool (decide (a < b))) else none
    | .leq => if k = k' then some (.bool (decide (a ≤ b))) else none
    | .gtr => if k = k' then some (.bool (decide (a > b))) else none
    | .geq => if k = k' then some (.bool (decide (a ≥ b))) else none
    | op => if k = k' then (ibits op k a b).map (.int k) else none
  | .str a, .str b =>
    match op with
    | .add => if a.size + b.size ≤ 9223372036854775807 then some (.str (a ++ b)) else none
    | .eql => some (.bool (a.toList == b.toList))
    | .neq => some (.bool !(a.toList == b.toList))
    | .lss => some (.bool (Op.bytesLess a.toList b.toList))
    | .leq => some (.bool (Op.bytesLess a.toList b.toList || a.toList == b.toList))
    | .gtr => some (.bool !(Op.bytesLess a.toList b.toList || a.toList == b.toList))
    | .geq => some (.bool !(Op.bytesLess a.toList b.toList))
    | _ => none
  | _, _ => none

def unop (op : UnOp) : D → Option D
  | .int k n => match op with
    | .neg => some (.int k (k.wrap (0 - n)))
    | .xor => (ibits .xor k (if k.signed then -1 else k.max) n).map (.int k)
    | _ => none
  | .bool b => match op with
    | .not => some (.bool !b)
    | _ => none
  | _ => none

/-- The bytes that such cells are. -/
def byteOf : D → Option UInt8
  | .int .u8 n => some (UInt8.ofNat n.toNat)
  | _ => none
def bytesOf : List D → Option (List UInt8)
  | [] => some []
  | d :: ds => (byteOf d).bind fun b => (bytesOf ds).map fun l => b :: l
def ofBytes (l : List UInt8) : List D := l.map fun b => .int .u8 (b.toNat : Int)

/-- A bound of a slice. -/
def bnd (x : Option D) (dflt top : Nat) : Option Nat :=
  match x with
  | none => some dflt
  | some (.int _ i) => if 0 ≤ i ∧ i ≤ top then some i.toNat else none
  | some _ => none

/-- A piece of a slice. -/
def subSl (h : Heap) (sz : Nat) (x : D) (lo hi : Option D) : Option D :=
  match x with
  | .nils => (bnd hi 0 0).bind fun b => (bnd lo 0 b).map fun _ => .nils
  | .sl cs n _ => if n * sz ≤ cs.length then (bnd hi n n).bind fun b => (bnd lo 0 b).map fun a => .sl ((cs.drop (a * sz)).take ((b - a) * sz)) (b - a) false else none
  | .own r n => match h[r]? with
    | some (.grow sz' _ len) | some (.ice sz' _ len) => if n = len ∧ sz' = sz then (bnd hi n n).bind fun b => (bnd lo 0 b).bind fun a => if a < n then some (.osl r n (a * sz) (b - a)) else some (.sl [] 0 false) else none
    | _ => none
  | .osl r n off k => match h[r]? with
    | some (.grow sz' _ len) | some (.ice sz' _ len) => if n = len ∧ sz' = sz then (bnd hi k k).bind fun b => (bnd lo 0 b).bind fun a => if a < k then some (.osl r n (off + a * sz) (b - a)) else some (.sl [] 0 false) else none
    | _ => none
  | .bsl r off k => match h[r]? with
    | some (.box _) | some (.icebox _) => (bnd hi k k).bind fun b => (bnd lo 0 b).bind fun a => if a < k then some (.bsl r (off + a * sz) (b - a)) else some (.sl [] 0 false)
    | _ => none
  | _ => none

/-- An index. -/
def idx (x : D) (n : Nat) : Option Nat :=
  match x with
  | .int _ i => if 0 ≤ i ∧ i < n then some i.toNat else none
  | _ => none

/-- The address of an element. -/
def elemAddr (h : Heap) (sz : Nat) (x i : D) : Option D :=
  match x with
  | .sl cs n _ => if n * sz ≤ cs.length then (idx i n).map fun j => .fptr (cs.drop (j * sz)) else none
  | .own r n => match h[r]? with
    | some (.grow sz' _ len) | some (.ice sz' _ len) => if n = len ∧ sz' = sz then (idx i n).map fun j => .eref r n (j * sz) else none
    | _ => none
  | .osl r n off k => match h[r]? with
    | some (.grow sz' _ len) | some (.ice sz' _ len) => if n = len ∧ sz' = sz then (idx i k).map fun j => .eref r n (off + j * sz) else none
    | _ => none
  | .bsl r off k => match h[r]? with
    | some (.box _) | some (.icebox _) => (idx i k).map fun j => .ref r (off + j * sz)
    | _ => none
  | _ => none

/-- A part of a value of several cells. -/
def fillD (cells : List D) : List (Nat × Nat × D) → Option (List D)
  | [] => some cells
  | (off, size, x) :: rest => if laid x = true ∧ (vcells x).length = size ∧ off + size ≤ cells.length then fillD (splice cells off (vcells x)) rest else none

/-- An element put behind. -/
def appendD (h : Heap) (sz bytes : Nat) (x : D) (ys : List D) (k : Nat) : Option (D × Heap) :=
  match x with
  | .nils => if k = 0 then some (.nils, h) else if k ≤ 1073741824 ∧ bytes ≤ 65536 then some (.own h.length k, h ++ [.grow sz ys k]) else none
  | .sl cs n true => if k = 0 then some (.sl cs n true, h) else if n * sz ≤ cs.length ∧ n + k ≤ 1073741824 ∧ bytes ≤ 65536 then some (.own h.length (n + k), h ++ [.grow sz (cs.take (n * sz) ++ ys) (n + k)]) else none
  | .own r n => match h[r]? with
    | some (.grow sz' cs len) => if n = len ∧ sz' = sz ∧ n + k ≤ 1073741824 ∧ bytes ≤ 65536 then some (.own r (n + k), h.set r (.grow sz (cs ++ ys) (n + k))) else none
    | _ => none
  | _ => none

/-- Cells laid over a slice's first ones. -/
def copyInto (h : Heap) (sz : Nat) (x : D) (vs : List D) : Option Heap :=
  match x with
  | .own r n => match h[r]? with
    | some (.grow sz' cs len) => if n = len ∧ sz' = sz ∧ vs.length ≤ cs.length then some (h.set r (.grow sz (vs ++ cs.drop vs.length) len)) else none
    | _ => none
  | .osl r n off _ => match h[r]? with
    | some (.grow sz' cs len) => if n = len ∧ sz' = sz ∧ off + vs.length ≤ cs.length then some (h.set r (.grow sz (cs.take off ++ vs ++ cs.drop (off + vs.length)) len)) else none
    | _ => none
  | .bsl r off _ => match h[r]? with
    | some (.box cs) => if off + vs.length ≤ cs.length then some (h.set r (.box (cs.take off ++ vs ++ cs.drop (off + vs.length)))) else none
    | _ => none
  | _ => none

end Go.YtodlpcoffmnmbaaDoor
