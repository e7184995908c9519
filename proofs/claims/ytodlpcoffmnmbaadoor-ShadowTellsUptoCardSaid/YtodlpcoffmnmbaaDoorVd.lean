/-
  Own work. The value machine, part D: operations and code with their types' sizes worked in; what an operation makes of a state.
-/
import Derived.Test.YtodlpcoffmnmbaaDoorVc
import Derived.Lib.Bytealg
namespace Go.YtodlpcoffmnmbaaDoor
open Go

inductive AOp where
  | mv (x : AO)
  | pick (c a b : AO)
  | alloc (zero : List D)
  | box (x : AO)
  | build (zero : List D) (parts : List (Nat × Nat × AO))
  | bslice (sz : Nat) (zero : List D) (len : Nat) (parts : List (Nat × Nat × AO))
  | load (ag : Option Nat) (x : AO)
  | store (n : Nat) (x y : AO)
  | nilchk (x : AO)
  | bin (op : BinOp) (x y : AO)
  | eqb (neg : Bool) (x y : AO)
  | isnil (neg : Bool) (s : Nat) (x : AO)
  | eqa (neg : Bool) (ks : List SK) (x y : AO)
  | un (op : UnOp) (x : AO)
  | conv (k : IntKind) (x : AO)
  | b2s (x : AO)
  | s2b (x : AO)
  | mks (sz bytes : Nat) (zero : List D) (l c : AO)
  | slc (sz : Nat) (x : AO) (lo hi : Option AO)
  | sstr (x : AO) (lo hi : Option AO)
  | sarr (n sz : Nat) (x : AO) (lo hi : Option AO)
  | slc0 (sz : Nat) (x : AO)
  | faddr (off : Nat) (x : AO)
  | fld (off : Nat) (ag : Option Nat) (x : AO)
  | ixs (sz : Nat) (x i : AO)
  | s2a (n sz : Nat) (x : AO)
  | ixa (n sz : Nat) (x i : AO)
  | ixv (n sz : Nat) (ag : Option Nat) (x i : AO)
  | ixstr (x i : AO)
  | ext (x : AO) (i : Nat)
  | len (str : Bool) (x : AO)
  | lit (d : D)
  | mnx (mx : Bool) (x y : AO)
  | mkfn (f : Fn) (first cap : List AO)
  | append (str : Bool) (sz bytes : Nat) (x y : AO)
  | copy (sz : Nat) (x y : AO)
  | mkmap
  | mapget (z : D) (x i : AO)
  | mapset (x i y : AO)
  | maplen (x : AO)
  | ixb (x c : AO)

/-- What a map has at a key, from a place on: the place, and what lies there. -/
def findM (k : IntKind) (n : Int) : List (D × D) → Nat → Option (Option (Nat × D))
  | [], _ => some none
  | e :: es, i => match e.1 with
    | .int k' n' => if k = k' then if n = n' then some (some (i, e.2)) else findM k n es (i + 1) else none
    | _ => none
/-- A map's entries. -/
def mapEs (h : Heap) : D → Option (List (D × D))
  | .nilm => some []
  | .mref r => match h[r]? with
    | some (.mapb es) => some es
    | _ => none
  | _ => none
/-- What is found, or the zero. -/
def foundM (z : D) : Option (Nat × D) → D
  | some p => p.2
  | none => z
/-- With an entry. -/
def putM (es : List (D × D)) (e : D × D) : Option (Nat × D) → List (D × D)
  | some p => es.set p.1 e
  | none => es ++ [e]

/-- How many elements a slice has, if it is one. -/
def slLen (h : Heap) : D → Option Nat
  | .nils => some 0
  | .sl _ n _ => some n
  | .own r n => match h[r]? with
    | some (.grow _ _ len) | some (.ice _ _ len) => if n = len then some n else none
    | _ => none
  | .osl r n _ k => match h[r]? with
    | some (.grow _ _ len) | some (.ice _ _ len) => if n = len then some k else none
    | _ => none
  | .bsl r _ k => match h[r]? with
    | some (.box _) | some (.icebox _) => some k
    | _ => none
  | _ => none

def lenD (h : Heap) : D → Option Nat
  | .str s => some s.size
  | d => slLen h d

/-- What is put behind, or copied: its cells, and how many elements they are. -/
def srcCells (h : Heap) (sz : Nat) : D → Option (List D × Nat)
  | .str s => if sz = 1 then some (ofBytes s.data.toList, s.size) else none
  | d => slCells h sz d

def fieldAddr (h : Heap) (off : Nat) : D → Option D
  | .ref r o => match h[r]? with
    | some (.box _) | some (.icebox _) => some (.ref r (o + off))
    | _ => none
  | .eref r n o => match h[r]? with
    | some (.grow _ _ len) | some (.ice _ _ len) => if n = len then some (.eref r n (o + off)) else none
    | _ => none
  | .fptr cs => some (.fptr (cs.drop off))
  | _ => none

/-- Of which sort is a value: a pointer, a slice, a function, an interface's value? -/
def D.sortOf : D → Nat
  | .nilp | .fptr _ | .ref .. | .eref .. => 1
  | .nils | .sl .. | .own .. | .osl .. | .bsl .. => 2
  | .nilf | .fn .. => 3
  | .nili | .iface .. => 4
  | _ => 0

def isNil (h : Heap) : D → Option Bool
  | .nilp | .nils | .nilf | .nili => some true
  | .fn .. | .iface .. => some false
  | .ref r o => (fieldAddr h 0 (.ref r o)).map fun _ => false
  | .eref r n o => (fieldAddr h 0 (.eref r n o)).map fun _ => false
  | .fptr _ => some false
  | d => (slLen h d).map fun _ => false

def mnxD (mx : Bool) : D → D → Option D
  | .int k a, .int _ b => some (.int k (if mx then (if b > a then b else a) else (if b < a then b else a)))
  | _, _ => none

def strSort : Bool → Nat
  | true => 0
  | false => 2

/-- What an operation makes of plain data: its value, and the blocks behind it. -/
def aop (o : AOp) (t : List D) (h : Heap) : Option (D × Heap) :=
  match o with
  | .mv x => some (ev t x, h)
  | .pick c a b => match ev t c with
    | .bool true => some (ev t a, h)
    | .bool false => some (ev t b, h)
    | _ => none
  | .alloc zero => some (.ref h.length 0, h ++ [.box zero])
  | .box x => if laid (ev t x) = true then some (.ref h.length 0, h ++ [.box (vcells (ev t x))]) else none
  | .build zero parts => (fillD zero (parts.map fun p => (p.1, p.2.1, ev t p.2.2))).map fun cs => (.agg cs, h)
  | .bslice sz zero len parts => (fillD zero (parts.map fun p => (p.1, p.2.1, ev t p.2.2))).map fun cs => (.own h.length len, h ++ [.grow sz cs len])
  | .load ag x => (ptrCells h (ev t x)).bind fun cs => (loadCs ag cs).map fun d => (d, h)
  | .store n x y => if laid (ev t y) = true ∧ (vcells (ev t y)).length = n then (storeAt h (ev t x) (vcells (ev t y))).map fun h' => (.any, h') else none
  | .nilchk x => match ev t x with
    | .ref r o => (fieldAddr h 0 (.ref r o)).map fun _ => (.ref r o, h)
    | .eref r n o => (fieldAddr h 0 (.eref r n o)).map fun _ => (.eref r n o, h)
    | .fptr cs => some (.fptr cs, h)
    | _ => none
  | .bin op x y => (arith op (ev t x) (ev t y)).map fun d => (d, h)
  | .eqb neg x y => match ev t x, ev t y with
    | .bool a, .bool b => some (.bool (if neg then !(a == b) else a == b), h)
    | _, _ => none
  | .isnil neg s x => if (ev t x).sortOf = s then (isNil h (ev t x)).map fun b => (.bool (if neg then !b else b), h) else none
  | .eqa neg ks x y => match ev t x, ev t y with
    | .agg xs, .agg ys => (eqCells ks xs ys).map fun b => (.bool (if neg then !b else b), h)
    | _, _ => none
  | .un op x => (unop op (ev t x)).map fun d => (d, h)
  | .conv k x => match ev t x with
    | .int _ n => some (.int k (k.wrap n), h)
    | _ => none
  | .b2s x => (slCells h 1 (ev t x)).bind fun p => (bytesOf p.1).map fun l => (.str ⟨l.toArray⟩, h)
  | .s2b x => match ev t x with
    | .str s => some (.own h.length s.size, h ++ [.grow 1 (ofBytes s.data.toList) s.size])
    | _ => none
  | .mks sz bytes zero l c => match ev t l, ev t c with
    | .int .i64 i, .int .i64 j => if 0 ≤ i ∧ i ≤ j ∧ j ≤ 1073741824 ∧ bytes ≤ 65536 then some (.own h.length i.toNat, h ++ [.grow sz (List.replicate i.toNat zero).flatten i.toNat]) else none
    | _, _ => none
  | .slc sz x lo hi => (subSl h sz (ev t x) (lo.map (ev t)) (hi.map (ev t))).map fun d => (d, h)
  | .sstr x lo hi => match ev t x with
    | .str s => (bnd (hi.map (ev t)) s.size s.size).bind fun b => (bnd (lo.map (ev t)) 0 b).map fun a => (.str (s.extract a b), h)
    | _ => none
  | .sarr n sz x lo hi => match ev t x with
    | .ref r off => match h[r]? with
      | some (.box _) | some (.icebox _) => (bnd (hi.map (ev t)) n n).bind fun b => (bnd (lo.map (ev t)) 0 b).bind fun a => if a < n then some (.bsl r (off + a * sz) (b - a), h) else some (.sl [] 0 false, h)
      | _ => none
    | .fptr cs => (bnd (hi.map (ev t)) n n).bind fun b => (bnd (lo.map (ev t)) 0 b).map fun a => (.sl ((cs.drop (a * sz)).take ((b - a) * sz)) (b - a) false, h)
    | _ => none
  | .slc0 _ x => match ev t x with
    | .nils => some (.nils, h)
    | d => (slLen h d).map fun _ => (.sl [] 0 true, h)
  | .faddr off x => (fieldAddr h off (ev t x)).map fun d => (d, h)
  | .fld off ag x => match ev t x with
    | .agg cs => (loadCs ag (cs.drop off)).map fun d => (d, h)
    | _ => none
  | .ixs sz x i => (elemAddr h sz (ev t x) (ev t i)).map fun d => (d, h)
  | .s2a n sz x => (elemAddr h sz (ev t x) (.int .i64 ((n - 1 : Nat) : Int))).bind fun _ => (elemAddr h sz (ev t x) (.int .i64 0)).map fun d => (d, h)
  | .ixa n sz x i => (idx (ev t i) n).bind fun j => (fieldAddr h (j * sz) (ev t x)).map fun d => (d, h)
  | .ixv n sz ag x i => match ev t x with
    | .agg cs => (idx (ev t i) n).bind fun j => (loadCs ag (cs.drop (j * sz))).map fun d => (d, h)
    | _ => none
  | .ixstr x i => match ev t x, ev t i with
    | .str s, .int _ j => if 0 ≤ j then (s.data.toList[j.toNat]?).map fun b => (.int .u8 (b.toNat : Int), h) else none
    | _, _ => none
  | .ext x i => match ev t x with
    | .tup vs => (vs[i]?).map fun d => (d, h)
    | _ => none
  | .len str x => if (ev t x).sortOf = strSort str then (lenD h (ev t x)).map fun (n : Nat) => (.int .i64 (n : Int), h) else none
  | .lit d => some (d, h)
  | .mnx mx x y => (mnxD mx (ev t x) (ev t y)).map fun d => (d, h)
  | .mkfn f first cap => some (.fn f (first.map (ev t)) (cap.map (ev t)), h)
  | .append str sz bytes x y => if (ev t y).sortOf = strSort str then (srcCells h sz (ev t y)).bind fun p => if p.1.all D.one = true then appendD h sz bytes (ev t x) p.1 p.2 else none else none
  | .copy sz x y => (slLen h (ev t x)).bind fun n => (srcCells h sz (ev t y)).bind fun p => if (p.1.take (min p.2 n * sz)).all D.one = true then (copyInto h sz (ev t x) (p.1.take (min p.2 n * sz))).map fun h' => (.int .i64 ((min p.2 n : Nat) : Int), h') else none

  | .mkmap => some (.mref h.length, h ++ [.mapb []])
  | .mapget z x i => match ev t i with
    | .int k n => (mapEs h (ev t x)).bind fun es => (findM k n es 0).map fun q => (foundM z q, h)
    | _ => none
  | .mapset x i y => match ev t x, ev t i with
    | .mref r, .int k n => (mapEs h (.mref r)).bind fun es => (findM k n es 0).map fun q => (.any, h.set r (.mapb (putM es (.int k n, ev t y) q)))
    | _, _ => none
  | .maplen x => (mapEs h (ev t x)).map fun es => (.int .i64 (es.length : Int), h)
  | .ixb x c => match ev t x, ev t c with
    | .str s, .int .u8 n => some (.int .i64 (Lib.indexByte s.data.toList n.toNat.toUInt8), h)
    | _, _ => none

/-- Does an operation leave the blocks as they are? -/
def AOp.quiet : AOp → Bool
  | .alloc _ | .box _ | .bslice .. | .store .. | .s2b _ | .mks .. | .append .. | .copy .. | .mkmap | .mapset .. => false
  | _ => true

theorem aop_quiet {o : AOp} (hq : o.quiet = true) {t : List D} {h h' : Heap} {d : D} (ha : aop o t h = some (d, h')) : h' = h := by
  cases o <;> simp [AOp.quiet] at hq <;> simp only [aop] at ha <;> grind [Option.map_eq_some_iff, Option.bind_eq_some_iff]

def setD (t : List D) (dst : Option Nat) (d : D) : List D :=
  match dst with
  | some i => t.set i d
  | none => t

inductive AStm where
  | op (dst : Option Nat) (g : Option (Nat × Bool)) (o : AOp)
  | call (dst : Option Nat) (g : Option (Nat × Bool)) (f : AO) (args : List AO)
  | callL (dst : Option Nat) (g : Option (Nat × Bool)) (f : AO) (args : List AO)
  | callG (dst : Option Nat) (g : Option (Nat × Bool)) (f : AO) (args : List AO)
  | callW (dst : Option Nat) (f : AO) (args : List AO)
  | chk (dst : Nat) (g : Option (Nat × Bool)) (o : AOp)

/-- Under a guard. -/
def guardK (t : List D) (g : Option (Nat × Bool)) (yes no : Prop) : Prop :=
  match g with
  | none => yes
  | some (s, b) => match t.getD s .any with
    | .bool c => (c = b → yes) ∧ (¬ c = b → no)
    | .tup [] => no
    | _ => False

/-- A call of a function value. -/
def CallK (P : Program) (f : D) (args : List D) (h : Heap) (R : D → Heap → Prop) : Prop :=
  match f with
  | .fn (.func i) first cap => FC P i (first ++ args ++ cap) h R
  | .yv r => YC P r args h R
  | _ => False

/-- What must be for operations one behind the other. -/
def aregs (P : Program) : List AStm → St → (St → Prop) → Prop
  | [], st, K => K st
  | .op dst g o :: rest, st, K =>
    guardK st.t g (holds (aop o st.t st.h) fun p => aregs P rest ⟨setD st.t dst p.1, p.2⟩ K) (aregs P rest ⟨setD st.t dst (.tup []), st.h⟩ K)
  | .call dst g f args :: rest, st, K =>
    guardK st.t g (CallK P (ev st.t f) (args.map (ev st.t)) st.h fun d h' => aregs P rest ⟨setD st.t dst d, h'⟩ K) (aregs P rest ⟨setD st.t dst (.tup []), st.h⟩ K)
  | .callG dst g f args :: rest, st, K =>
    guardK st.t g (CallK P (ev st.t f) (args.map (ev st.t)) st.h fun d h' => (∃ L, h' = st.h ++ L) ∧ aregs P rest ⟨setD st.t dst d, h'⟩ K) (aregs P rest ⟨setD st.t dst (.tup []), st.h⟩ K)
  | .callL .. :: _, _, _ => False
  | .chk .. :: _, _, _ => False
  | .callW .. :: _, _, _ => False
/-- What must be for operations in whatever order. -/
def aheads (P : Program) : List AStm → St → (St → Prop) → Prop
  | [], st, K => K st
  | .op dst g o :: rest, st, K =>
    guardK st.t g (holds (aop o st.t st.h) fun p => aheads P rest ⟨setD st.t dst p.1, p.2⟩ K) (aheads P rest ⟨setD st.t dst (.tup []), st.h⟩ K)
  | .call dst g f args :: rest, st, K =>
    guardK st.t g (∃ d, CallK P (ev st.t f) (args.map (ev st.t)) st.h (fun d' h' => d' = d ∧ h' = st.h) ∧ aheads P rest ⟨setD st.t dst d, st.h⟩ K) (aheads P rest ⟨setD st.t dst (.tup []), st.h⟩ K)
  | .callL dst g f args :: rest, st, K =>
    guardK st.t g (∃ d, (∀ L, CallK P (ev st.t f) (args.map (ev st.t)) (st.h ++ L) fun d' h' => d' = d ∧ h' = st.h ++ L) ∧ aheads P rest ⟨setD st.t dst d, st.h⟩ K) (aheads P rest ⟨setD st.t dst (.tup []), st.h⟩ K)
  | .callG .. :: _, _, _ => False
  | .callW dst f args :: rest, st, K => ∃ d h2, h2.length = st.h.length ∧ (∀ L, CallK P (ev st.t f) (args.map (ev st.t)) (st.h ++ L) fun d' h' => d' = d ∧ h' = h2 ++ L) ∧ aheads P rest ⟨setD st.t dst d, h2⟩ K
  | .chk dst g o :: rest, st, K => guardK st.t g (holds (aop o st.t st.h) fun p => p.1 = st.t.getD dst .any) True ∧ aheads P rest st K

inductive AC where
  | skip
  | reg (ss : List AStm)
  | dreg (hd tl : List AStm)
  | seq (a b : AC)
  | cond (c : AO) (a b : AC)
  | block (id : Nat) (a : AC)
  | loop (a : AC)
  | exit (id : Nat)
  | bad
  | ret
  | rfunc (f : AO) (ps : List Nat) (a b : AC)
  | scope (a : AC)

/-- Is there no loop over a function in it? -/
def AC.plain : AC → Bool
  | .rfunc .. => false
  | .seq a b | .cond _ a b => a.plain && b.plain
  | .block _ a | .loop a | .scope a => a.plain
  | _ => true
/-- A loop over a function: the function is called with the yield. -/
def RangeK (P : Program) (f : D) (r : Nat) (h : Heap) (R : D → Heap → Prop) : Prop :=
  match f with
  | .fn (.func i) first cap => FC P i (first ++ [.yv r] ++ cap) h R
  | _ => False
/-- Where a loop over a function comes to. -/
def rangeQ (r : Nat) (T : List D) (ps : List Nat) (as bd : Code) (Q : Exit → St → Prop) (h : Heap) : Prop :=
  ∃ s pe, h[r]? = some (.recb s T ps as bd pe) ∧ s ≠ .busy ∧ match pe with
    | none => Q .normal ⟨T, h.set r .dead⟩
    | some .ret => Q .ret ⟨T, h.set r .dead⟩
    | some (.exit id) => Q (.exit id) ⟨T, h.set r .dead⟩
    | _ => False

end Go.YtodlpcoffmnmbaaDoor
