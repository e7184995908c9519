/-
  Own work. The value machine, part S: what walks need, by simp.
-/
import Derived.Test.YtodlpcoffmnmbaaDoorVr
namespace Go.YtodlpcoffmnmbaaDoor
open Go
set_option linter.unusedVariables false
set_option linter.unusedSimpArgs false

theorem AWA.seq' {P : Program} {Q : Exit → St → Prop} {st : St} {x y : AC} (hx : AWA P x (thenQ (fun st' => AWA P y Q st') Q) st) : AWA P (.seq x y) Q st := AWA.seq hx fun _ h => h
theorem AWA.cond' {P : Program} {Q : Exit → St → Prop} {st : St} {c : AO} {x y : AC} {b : Bool} (hb : ev st.t c = .bool b) (h1 : b = true → AWA P x Q st) (h2 : b = false → AWA P y Q st) : AWA P (.cond c x y) Q st := AWA.cond hb h1 h2
theorem AWA.condT {P : Program} {Q : Exit → St → Prop} {st : St} {c : AO} {x y : AC} (hb : ev st.t c = .bool true) (h1 : AWA P x Q st) : AWA P (.cond c x y) Q st := AWA.cond hb (fun _ => h1) (fun h => by cases h)
theorem AWA.condF {P : Program} {Q : Exit → St → Prop} {st : St} {c : AO} {x y : AC} (hb : ev st.t c = .bool false) (h1 : AWA P y Q st) : AWA P (.cond c x y) Q st := AWA.cond hb (fun h => by cases h) (fun _ => h1)

/-! ### lists by literal places -/
theorem set_0 {a0 b : D} {l : List D} : (a0 :: l).set 0 b = b :: l := rfl
theorem get_0 {a0 d : D} {l : List D} : (a0 :: l).getD 0 d = a0 := rfl
theorem set_1 {a0 a1 b : D} {l : List D} : (a0 :: a1 :: l).set 1 b = a0 :: b :: l := rfl
theorem get_1 {a0 a1 d : D} {l : List D} : (a0 :: a1 :: l).getD 1 d = a1 := rfl
theorem set_2 {a0 a1 a2 b : D} {l : List D} : (a0 :: a1 :: a2 :: l).set 2 b = a0 :: a1 :: b :: l := rfl
theorem get_2 {a0 a1 a2 d : D} {l : List D} : (a0 :: a1 :: a2 :: l).getD 2 d = a2 := rfl
theorem set_3 {a0 a1 a2 a3 b : D} {l : List D} : (a0 :: a1 :: a2 :: a3 :: l).set 3 b = a0 :: a1 :: a2 :: b :: l := rfl
theorem get_3 {a0 a1 a2 a3 d : D} {l : List D} : (a0 :: a1 :: a2 :: a3 :: l).getD 3 d = a3 := rfl
theorem set_4 {a0 a1 a2 a3 a4 b : D} {l : List D} : (a0 :: a1 :: a2 :: a3 :: a4 :: l).set 4 b = a0 :: a1 :: a2 :: a3 :: b :: l := rfl
theorem get_4 {a0 a1 a2 a3 a4 d : D} {l : List D} : (a0 :: a1 :: a2 :: a3 :: a4 :: l).getD 4 d = a4 := rfl
theorem set_5 {a0 a1 a2 a3 a4 a5 b : D} {l : List D} : (a0 :: a1 :: a2 :: a3 :: a4 :: a5 :: l).set 5 b = a0 :: a1 :: a2 :: a3 :: a4 :: b :: l := rfl
theorem get_5 {a0 a1 a2 a3 a4 a5 d : D} {l : List D} : (a0 :: a1 :: a2 :: a3 :: a4 :: a5 :: l).getD 5 d = a5 := rfl
theorem set_6 {a0 a1 a2 a3 a4 a5 a6 b : D} {l : List D} : (a0 :: a1 :: a2 :: a3 :: a4 :: a5 :: a6 :: l).set 6 b = a0 :: a1 :: a2 :: a3 :: a4 :: a5 :: b :: l := rfl
theorem get_6 {a0 a1 a2 a3 a4 a5 a6 d : D} {l : List D} : (a0 :: a1 :: a2 :: a3 :: a4 :: a5 :: a6 :: l).getD 6 d = a6 := rfl
theorem set_7 {a0 a1 a2 a3 a4 a5 a6 a7 b : D} {l : List D} : (a0 :: a1 :: a2 :: a3 :: a4 :: a5 :: a6 :: a7 :: l).set 7 b = a0 :: a1 :: a2 :: a3 :: a4 :: a5 :: a6 :: b :: l := rfl
theorem get_7 {a0 a1 a2 a3 a4 a5 a6 a7 d : D} {l : List D} : (a0 :: a1 :: a2 :: a3 :: a4 :: a5 :: a6 :: a7 :: l).getD 7 d = a7 := rfl
theorem set_8 {a0 a1 a2 a3 a4 a5 a6 a7 b : D} {l : List D} {n : Nat} : (a0 :: a1 :: a2 :: a3 :: a4 :: a5 :: a6 :: a7 :: l).set (n + 8) b = a0 :: a1 :: a2 :: a3 :: a4 :: a5 :: a6 :: a7 :: l.set n b := rfl
theorem get_8 {a0 a1 a2 a3 a4 a5 a6 a7 d : D} {l : List D} {n : Nat} : (a0 :: a1 :: a2 :: a3 :: a4 :: a5 :: a6 :: a7 :: l).getD (n + 8) d = l.getD n d := rfl

/-! ### statements, one behind the other: simp goes to what is done first -/
def hop (o : Option (D × Heap)) (P : Program) (rest : List AStm) (t : List D) (dst : Option Nat) (K : St → Prop) : Prop := holds o fun p => aregs P rest ⟨setD t dst p.1, p.2⟩ K
def hgrd (x : D) (b : Bool) (o : AOp) (P : Program) (rest : List AStm) (t : List D) (h : Heap) (dst : Option Nat) (K : St → Prop) : Prop :=
  match x with
  | .bool c => (c = b → hop (aop o t h) P rest t dst K) ∧ (¬ c = b → aregs P rest ⟨setD t dst (.tup []), h⟩ K)
  | .tup [] => aregs P rest ⟨setD t dst (.tup []), h⟩ K
  | _ => False
def hfc (P : Program) (i : FuncId) (args : List D) (h : Heap) (rest : List AStm) (t : List D) (dst : Option Nat) (K : St → Prop) : Prop := FC P i args h fun d h' => aregs P rest ⟨setD t dst d, h'⟩ K
def hcall (f : D) (args : List D) (h : Heap) (P : Program) (rest : List AStm) (t : List D) (dst : Option Nat) (K : St → Prop) : Prop := CallK P f args h fun d h' => aregs P rest ⟨setD t dst d, h'⟩ K
def hgcall (x : D) (b : Bool) (f : AO) (args : List AO) (P : Program) (rest : List AStm) (t : List D) (h : Heap) (dst : Option Nat) (K : St → Prop) : Prop :=
  match x with
  | .bool c => (c = b → hcall (ev t f) (args.map (ev t)) h P rest t dst K) ∧ (¬ c = b → aregs P rest ⟨setD t dst (.tup []), h⟩ K)
  | .tup [] => aregs P rest ⟨setD t dst (.tup []), h⟩ K
  | _ => False
section
variable {P : Program} {t : List D} {h : Heap} {K : St → Prop} {dst : Option Nat} {o : AOp} {rest : List AStm} {s : Nat} {b c : Bool} {d : D} {h' : Heap} {f : AO} {args : List AO}
theorem rg_nil {st : St} : aregs P [] st K = K st := rfl
theorem rg_op : aregs P (.op dst none o :: rest) ⟨t, h⟩ K = hop (aop o t h) P rest t dst K := rfl
theorem rg_opg : aregs P (.op dst (some (s, b)) o :: rest) ⟨t, h⟩ K = hgrd (t.getD s .any) b o P rest t h dst K := rfl
theorem rg_call : aregs P (.call dst none f args :: rest) ⟨t, h⟩ K = hcall (ev t f) (args.map (ev t)) h P rest t dst K := rfl
theorem rg_callg : aregs P (.call dst (some (s, b)) f args :: rest) ⟨t, h⟩ K = hgcall (t.getD s .any) b f args P rest t h dst K := rfl
theorem hop_some : hop (some (d, h')) P rest t dst K = aregs P rest ⟨setD t dst d, h'⟩ K := by simp [hop]
theorem hop_ite {q : Prop} [Decidable q] {x : Option (D × Heap)} : hop (if q then x else none) P rest t dst K = (q ∧ hop x P rest t dst K) := by unfold hop; exact holds_ite q x _
theorem hgrd_bool : hgrd (.bool c) b o P rest t h dst K = if c = b then hop (aop o t h) P rest t dst K else aregs P rest ⟨setD t dst (.tup []), h⟩ K := by
  by_cases e : c = b <;> simp [hgrd, e]
theorem hgrd_tup : hgrd (.tup []) b o P rest t h dst K = aregs P rest ⟨setD t dst (.tup []), h⟩ K := rfl
theorem hgcall_bool : hgcall (.bool c) b f args P rest t h dst K = if c = b then hcall (ev t f) (args.map (ev t)) h P rest t dst K else aregs P rest ⟨setD t dst (.tup []), h⟩ K := by
  by_cases e : c = b <;> simp [hgcall, e]
theorem hgcall_tup : hgcall (.tup []) b f args P rest t h dst K = aregs P rest ⟨setD t dst (.tup []), h⟩ K := rfl
theorem hcall_fn {i : FuncId} {first cap as : List D} : hcall (.fn (.func i) first cap) as h P rest t dst K = hfc P i (first ++ as ++ cap) h rest t dst K := rfl
/-- A call, by what the function does. -/
theorem hfc_of {i : FuncId} {as : List D} {R : D → Heap → Prop} (hc : FC P i as h R) (hk : ∀ d h', R d h' → aregs P rest ⟨setD t dst d, h'⟩ K) : hfc P i as h rest t dst K := hc.mono hk

/-! the same, where the order is open -/
def qop (o : Option (D × Heap)) (P : Program) (rest : List AStm) (t : List D) (dst : Option Nat) (K : St → Prop) : Prop := holds o fun p => aheads P rest ⟨setD t dst p.1, p.2⟩ K
def qgrd (x : D) (b : Bool) (o : AOp) (P : Program) (rest : List AStm) (t : List D) (h : Heap) (dst : Option Nat) (K : St → Prop) : Prop :=
  match x with
  | .bool c => (c = b → qop (aop o t h) P rest t dst K) ∧ (¬ c = b → aheads P rest ⟨setD t dst (.tup []), h⟩ K)
  | .tup [] => aheads P rest ⟨setD t dst (.tup []), h⟩ K
  | _ => False
def qcall (f : D) (args : List D) (h : Heap) (P : Program) (rest : List AStm) (t : List D) (dst : Option Nat) (K : St → Prop) : Prop := ∃ d, CallK P f args h (fun d' h' => d' = d ∧ h' = h) ∧ aheads P rest ⟨setD t dst d, h⟩ K
def qgcall (x : D) (b : Bool) (f : AO) (args : List AO) (P : Program) (rest : List AStm) (t : List D) (h : Heap) (dst : Option Nat) (K : St → Prop) : Prop :=
  match x with
  | .bool c => (c = b → qcall (ev t f) (args.map (ev t)) h P rest t dst K) ∧ (¬ c = b → aheads P rest ⟨setD t dst (.tup []), h⟩ K)
  | .tup [] => aheads P rest ⟨setD t dst (.tup []), h⟩ K
  | _ => False
def qfc (P : Program) (i : FuncId) (args : List D) (h : Heap) (rest : List AStm) (t : List D) (dst : Option Nat) (K : St → Prop) : Prop := ∃ d, FC P i args h (fun d' h' => d' = d ∧ h' = h) ∧ aheads P rest ⟨setD t dst d, h⟩ K
theorem qg_nil {st : St} : aheads P [] st K = K st := rfl
theorem qg_op : aheads P (.op dst none o :: rest) ⟨t, h⟩ K = qop (aop o t h) P rest t dst K := rfl
theorem qg_opg : aheads P (.op dst (some (s, b)) o :: rest) ⟨t, h⟩ K = qgrd (t.getD s .any) b o P rest t h dst K := rfl
theorem qg_call : aheads P (.call dst none f args :: rest) ⟨t, h⟩ K = qcall (ev t f) (args.map (ev t)) h P rest t dst K := rfl
theorem qg_callg : aheads P (.call dst (some (s, b)) f args :: rest) ⟨t, h⟩ K = qgcall (t.getD s .any) b f args P rest t h dst K := rfl
theorem qop_some : qop (some (d, h')) P rest t dst K = aheads P rest ⟨setD t dst d, h'⟩ K := by simp [qop]
theorem qop_ite {q : Prop} [Decidable q] {x : Option (D × Heap)} : qop (if q then x else none) P rest t dst K = (q ∧ qop x P rest t dst K) := by unfold qop; exact holds_ite q x _
theorem qgrd_bool : qgrd (.bool c) b o P rest t h dst K = if c = b then qop (aop o t h) P rest t dst K else aheads P rest ⟨setD t dst (.tup []), h⟩ K := by
  by_cases e : c = b <;> simp [qgrd, e]
theorem qgrd_tup : qgrd (.tup []) b o P rest t h dst K = aheads P rest ⟨setD t dst (.tup []), h⟩ K := rfl
theorem qgcall_bool : qgcall (.bool c) b f args P rest t h dst K = if c = b then qcall (ev t f) (args.map (ev t)) h P rest t dst K else aheads P rest ⟨setD t dst (.tup []), h⟩ K := by
  by_cases e : c = b <;> simp [qgcall, e]
theorem qgcall_tup : qgcall (.tup []) b f args P rest t h dst K = aheads P rest ⟨setD t dst (.tup []), h⟩ K := rfl
theorem qcall_fn {i : FuncId} {first cap as : List D} : qcall (.fn (.func i) first cap) as h P rest t dst K = qfc P i (first ++ as ++ cap) h rest t dst K := rfl
theorem qfc_of {i : FuncId} {as : List D} (hc : FC P i as h fun d' h' => d' = d ∧ h' = h) (hk : aheads P rest ⟨setD t dst d, h⟩ K) : qfc P i as h rest t dst K := ⟨d, hc, hk⟩
end

/-! ### what follows a way out -/
section
variable {K : St → Prop} {Q : Exit → St → Prop} {st : St} {id id' : Nat}
theorem thenQ_normal : thenQ K Q .normal st = K st := rfl
theorem thenQ_exit : thenQ K Q (.exit id) st = Q (.exit id) st := rfl
theorem thenQ_ret : thenQ K Q .ret st = Q .ret st := rfl
theorem blockQ_normal : blockQ id Q .normal st = Q .normal st := rfl
theorem blockQ_exit : blockQ id Q (.exit id') st = if id' = id then Q .normal st else Q (.exit id') st := rfl
theorem blockQ_ret : blockQ id Q .ret st = Q .ret st := rfl
theorem endA_ret {rs : List ARes} {h0 : Heap} {R : D → Heap → Prop} : endA rs h0 R .ret st = ∃ ds, resD rs st = some ds ∧ FinOk h0 st.h ds R := rfl
theorem endA_normal {rs : List ARes} {h0 : Heap} {R : D → Heap → Prop} : endA rs h0 R .normal st = ∃ ds, resD rs st = some ds ∧ FinOk h0 st.h ds R := rfl
end

/-! ### a text's bytes -/
def bs (l : List UInt8) : ByteArray := ⟨l.toArray⟩
theorem bs_list (l : List UInt8) : (bs l).data.toList = l := rfl
theorem bs_toList (l : List UInt8) : (bs l).toList = l := by rw [ByteArray.toList_eq]; rfl
theorem bs_size (l : List UInt8) : (bs l).size = l.length := rfl
theorem bs_append (l r : List UInt8) : bs l ++ bs r = bs (l ++ r) := by
  apply ByteArray.ext
  simp [bs]
theorem bs_extract (l : List UInt8) (a b : Nat) : (bs l).extract a b = bs ((l.take b).drop a) := by
  apply ByteArray.ext
  apply Array.ext'
  simp [bs, List.extract_eq_take_drop, List.drop_take]
theorem bs_inj {l r : List UInt8} : bs l = bs r ↔ l = r := ⟨fun h => by have := congrArg (fun s => s.data.toList) h; exact this, fun h => by rw [h]⟩
theorem bs_of (s : ByteArray) : s = bs s.data.toList := by cases s; rfl

theorem getD_of_lt {α : Type} [Inhabited α] (l : List α) (i : Nat) (d : α) (h : i < l.length) : l[i]? = some (l.getD i d) := by
  rw [List.getElem?_eq_getElem h, List.getD_eq_getElem?_getD, List.getElem?_eq_getElem h]; rfl
theorem getB {l : List UInt8} {i : Nat} (h : i < l.length) : l[i]? = some (l.getD i 0) := getD_of_lt l i 0 h
theorem getZ {l : List Int} {i : Nat} (h : i < l.length) : l[i]? = some (l.getD i 0) := getD_of_lt l i 0 h

/-! ### numbers -/
theorem wrap_u {k : IntKind} {n : Int} (hk : k.signed = false) (h0 : 0 ≤ n) (h1 : n < 2 ^ k.bits) : k.wrap n = n := by
  simp only [IntKind.wrap, hk, Bool.false_and, Bool.false_eq_true, if_false]
  exact Int.emod_eq_of_lt h0 h1
theorem w_i64 {n : Int} (h0 : -9223372036854775808 ≤ n) (h1 : n < 9223372036854775808) : IntKind.i64.wrap n = n := by
  simp [IntKind.wrap, IntKind.bits, IntKind.signed]; omega
theorem w_u8 {n : Int} (h0 : 0 ≤ n) (h1 : n < 256) : IntKind.u8.wrap n = n := wrap_u rfl h0 h1
theorem w_u16 {n : Int} (h0 : 0 ≤ n) (h1 : n < 65536) : IntKind.u16.wrap n = n := wrap_u rfl h0 h1
theorem w_u32 {n : Int} (h0 : 0 ≤ n) (h1 : n < 4294967296) : IntKind.u32.wrap n = n := wrap_u rfl h0 h1
theorem w_u64 {n : Int} (h0 : 0 ≤ n) (h1 : n < 18446744073709551616) : IntKind.u64.wrap n = n := wrap_u rfl h0 h1

section
variable {k : IntKind} {a b : Int}
theorem ar_add : arith .add (.int k a) (.int k b) = some (.int k (k.wrap (a + b))) := by simp [arith]
theorem ar_sub : arith .sub (.int k a) (.int k b) = some (.int k (k.wrap (a - b))) := by simp [arith]
theorem ar_mul : arith .mul (.int k a) (.int k b) = some (.int k (k.wrap (a * b))) := by simp [arith]
theorem ar_quo (h : ¬ b = 0) : arith .quo (.int k a) (.int k b) = some (.int k (k.wrap (a.tdiv b))) := by simp [arith, h]
theorem ar_rem (h : ¬ b = 0) : arith .rem (.int k a) (.int k b) = some (.int k (a.tmod b)) := by simp [arith, h]
theorem ar_eql : arith .eql (.int k a) (.int k b) = some (.bool (decide (a = b))) := by simp only [arith, if_true]; congr 2
theorem ar_neq : arith .neq (.int k a) (.int k b) = some (.bool (decide (¬ a = b))) := by simp [arith, bne, BEq.beq]
theorem ar_lss : arith .lss (.int k a) (.int k b) = some (.bool (decide (a < b))) := by simp [arith]
theorem ar_leq : arith .leq (.int k a) (.int k b) = some (.bool (decide (a ≤ b))) := by simp [arith]
theorem ar_gtr : arith .gtr (.int k a) (.int k b) = some (.bool (decide (b < a))) := by simp [arith]
theorem ar_geq : arith .geq (.int k a) (.int k b) = some (.bool (decide (b ≤ a))) := by simp [arith]
theorem ar_shl {k' : IntKind} (h : 0 ≤ b) : arith .shl (.int k a) (.int k' b) = some (.int k (k.wrap (a * 2 ^ (min b.toNat k.bits)))) := by simp [arith, h]
theorem ar_shr {k' : IntKind} (h : 0 ≤ b) : arith .shr (.int k a) (.int k' b) = some (.int k (a.fdiv (2 ^ (min b.toNat k.bits)))) := by simp [arith, h]
theorem ar_and : arith .and (.int k a) (.int k b) = some (.int k (k.wrap (BitVec.ofInt k.bits a &&& BitVec.ofInt k.bits b).toNat)) := by simp [arith, ibits]
theorem ar_or : arith .or (.int k a) (.int k b) = some (.int k (k.wrap (BitVec.ofInt k.bits a ||| BitVec.ofInt k.bits b).toNat)) := by simp [arith, ibits]
theorem ar_xor : arith .xor (.int k a) (.int k b) = some (.int k (k.wrap (BitVec.ofInt k.bits a ^^^ BitVec.ofInt k.bits b).toNat)) := by simp [arith, ibits]
theorem ar_andNot : arith .andNot (.int k a) (.int k b) = some (.int k (k.wrap (BitVec.ofInt k.bits a &&& ~~~ BitVec.ofInt k.bits b).toNat)) := by simp [arith, ibits]
end
section
variable {l r : List UInt8}
theorem as_add (h : l.length + r.length ≤ 9223372036854775807) : arith .add (.str (bs l)) (.str (bs r)) = some (.str (bs (l ++ r))) := by
  simp only [arith, bs_size, bs_append]; rw [if_pos h]
theorem as_eql : arith .eql (.str (bs l)) (.str (bs r)) = some (.bool (decide (l = r))) := by
  simp only [arith, bs_toList]; congr 2; by_cases h : l = r <;> simp [h]
theorem as_neq : arith .neq (.str (bs l)) (.str (bs r)) = some (.bool (decide (¬ l = r))) := by
  simp only [arith, bs_toList]; congr 2; by_cases h : l = r <;> simp [h]
end

theorem idx_ok {k : IntKind} {i : Int} {n : Nat} (h0 : 0 ≤ i) (h1 : i < n) : idx (.int k i) n = some i.toNat := by simp [idx, h0, h1]
theorem bnd_no {a b : Nat} : bnd none a b = some a := rfl
theorem bnd_ok {k : IntKind} {i : Int} {a n : Nat} (h0 : 0 ≤ i) (h1 : i ≤ n) : bnd (some (.int k i)) a n = some i.toNat := by simp [bnd, h0, h1]
theorem bnd_nat {k : IntKind} {i : Nat} {a n : Nat} (h1 : i ≤ n) : bnd (some (.int k (i : Int))) a n = some i := by simp [bnd, h1]

/-! ### what an operation makes, where it makes something -/
section
variable {t : List D} {h : Heap}
theorem op_mv {x : AO} : aop (.mv x) t h = some (ev t x, h) := rfl
theorem op_ixstr {x i : AO} {l : List UInt8} {k : IntKind} {j : Int} (hx : ev t x = .str (bs l)) (hi : ev t i = .int k j) (h0 : 0 ≤ j) (h1 : j < l.length) : aop (.ixstr x i) t h = some (.int .u8 ((l.getD j.toNat 0).toNat : Int), h) := by
  simp only [aop, hx, hi, if_pos h0, bs_list]
  rw [getB (by omega)]
  rfl
end

theorem slCells_len {h : Heap} {sz : Nat} {d : D} {cs : List D} {n : Nat} (hd : slCells h sz d = some (cs, n)) : slLen h d = some n ∧ d.sortOf = 2 ∧ lenD h d = some n := by
  unfold slCells at hd
  split at hd
  · simp only [Option.some.injEq, Prod.mk.injEq] at hd
    obtain ⟨rfl, rfl⟩ := hd
    simp [slLen, D.sortOf, lenD]
  · split at hd
    · simp only [Option.some.injEq, Prod.mk.injEq] at hd
      obtain ⟨rfl, rfl⟩ := hd
      simp [slLen, D.sortOf, lenD]
    · cases hd
  all_goals first
    | (cases hd; done)
    | (split at hd <;> first
        | (cases hd; done)
        | (split at hd
           · simp only [Option.some.injEq, Prod.mk.injEq] at hd
             obtain ⟨rfl, rfl⟩ := hd
             simp_all [D.sortOf, slLen, lenD]
           · cases hd))

/-- A slice that has these cells. -/
structure SlOf (h : Heap) (sz : Nat) (d : D) (cs : List D) (n : Nat) : Prop where
  cells : slCells h sz d = some (cs, n)
  len : cs.length = n * sz
  slen : slLen h d = some n
  sort : d.sortOf = 2
  lend : lenD h d = some n

theorem SlOf.of {h : Heap} {sz : Nat} {d : D} {cs : List D} {n : Nat} (hd : slCells h sz d = some (cs, n)) (hl : cs.length = n * sz) : SlOf h sz d cs n :=
  let ⟨h1, h2, h3⟩ := slCells_len hd
  ⟨hd, hl, h1, h2, h3⟩

theorem sl_of (h : Heap) (sz : Nat) (cs : List D) (n : Nat) (f : Bool) (hl : cs.length = n * sz) : SlOf h sz (.sl cs n f) cs n :=
  .of (by simp [slCells, hl]; rw [List.take_of_length_le (by omega)]) hl
theorem nils_of (h : Heap) (sz : Nat) : SlOf h sz .nils [] 0 := .of rfl (by simp)
theorem own_of {h : Heap} {r sz : Nat} {cs : List D} {n : Nat} (hb : h[r]? = some (.grow sz cs n)) (hl : cs.length = n * sz) : SlOf h sz (.own r n) cs n := .of (by simp [slCells, hb]) hl
theorem bsl_of {h : Heap} {r off k sz : Nat} {cs : List D} (hb : h[r]? = some (.box cs)) (hl : off + k * sz ≤ cs.length) : SlOf h sz (.bsl r off k) ((cs.drop off).take (k * sz)) k := .of (by simp [slCells, hb, hl]) (by simp; omega)

/-! ### blocks put behind -/
section
variable {h L : Heap} {b c : Blk} {i n : Nat}
theorem hp_get : (h ++ L)[h.length + i]? = L[i]? := by rw [List.getElem?_append_right (by omega)]; congr 1; omega
theorem hp_get0 : (h ++ L)[h.length]? = L[0]? := by rw [List.getElem?_append_right (by omega)]; congr 1; omega
theorem hp_set : (h ++ L).set (h.length + i) b = h ++ L.set i b := by rw [List.set_append_right _ _ (by omega)]; congr 2; omega
theorem hp_set0 : (h ++ L).set h.length b = h ++ L.set 0 b := by rw [List.set_append_right _ _ (by omega)]; congr 2; omega
theorem hp_assoc : (h ++ L) ++ [b] = h ++ (L ++ [b]) := List.append_assoc _ _ _
theorem hp_len : (h ++ L).length = h.length + L.length := List.length_append
theorem hb_set0 {l : Heap} : (c :: l).set 0 b = b :: l := rfl
theorem hb_set1 {l : Heap} : (c :: l).set (n + 1) b = c :: l.set n b := rfl
theorem hb_last {l : Heap} : (l ++ [b])[l.length]? = some b := List.getElem?_concat_length
theorem hb_cons {l : Heap} : (c :: l) ++ [b] = c :: (l ++ [b]) := rfl
theorem hb_nil : ([] : Heap) ++ [b] = [b] := rfl
theorem hb_get0 {l : Heap} : (c :: l)[0]? = some c := rfl
theorem hb_get1 {l : Heap} : (c :: l)[n + 1]? = l[n]? := rfl
end

theorem get_low {h L : Heap} {r : Nat} (hr : r < h.length) : (h ++ L)[r]? = h[r]? := List.getElem?_append_left hr

theorem slCells_low {h : Heap} {sz : Nat} {d : D} {cs : List D} {n : Nat} (hd : slCells h sz d = some (cs, n)) (L : Heap) : slCells (h ++ L) sz d = some (cs, n) := by
  have key : ∀ r : Nat, (∃ b, h[r]? = some b) → (h ++ L)[r]? = h[r]? := fun r hb => by
    obtain ⟨b, hb⟩ := hb
    exact get_low (List.getElem?_eq_some_iff.1 hb).1
  unfold slCells at hd ⊢
  split at hd
  · exact hd
  · exact hd
  · rename_i r k
    cases hb : h[r]? with
    | none => rw [hb] at hd; cases hd
    | some b => simp only [key r ⟨b, hb⟩]; exact hd
  · rename_i r k off kk
    cases hb : h[r]? with
    | none => rw [hb] at hd; cases hd
    | some b => simp only [key r ⟨b, hb⟩]; exact hd
  · rename_i r off kk
    cases hb : h[r]? with
    | none => rw [hb] at hd; cases hd
    | some b => simp only [key r ⟨b, hb⟩]; exact hd
  · cases hd

theorem SlOf.low {h : Heap} {sz : Nat} {d : D} {cs : List D} {n : Nat} (hd : SlOf h sz d cs n) (L : Heap) : SlOf (h ++ L) sz d cs n := .of (slCells_low hd.cells L) hd.len

/-- An element of a slice: where it lies there lie its cells. -/
theorem SlOf.elem {h : Heap} {sz : Nat} {d : D} {cs : List D} {n : Nat} (hd : SlOf h sz d cs n) {k : IntKind} {i : Int} (h0 : 0 ≤ i) (h1 : i < n) :
    ∃ p cs', elemAddr h sz d (.int k i) = some p ∧ ptrCells h p = some cs' ∧ ∀ x, x < sz → cs'[x]? = cs[i.toNat * sz + x]? := by
  have hlt : i.toNat < n := by omega
  have hm : i.toNat * sz + sz ≤ n * sz := by
    have := Nat.mul_le_mul_right sz (show i.toNat + 1 ≤ n by omega)
    rw [Nat.add_mul] at this; omega
  have hc := hd.cells
  have hl := hd.len
  have ix := idx_ok (k := k) h0 h1
  unfold slCells at hc
  split at hc
  · simp only [Option.some.injEq, Prod.mk.injEq] at hc
    omega
  · rename_i cs0 n0 f
    split at hc
    · rename_i hle
      simp only [Option.some.injEq, Prod.mk.injEq] at hc
      obtain ⟨rfl, rfl⟩ := hc
      refine ⟨.fptr (cs0.drop (i.toNat * sz)), cs0.drop (i.toNat * sz), by simp [elemAddr, hle, ix], rfl, fun x hx => ?_⟩
      rw [List.getElem?_drop, List.getElem?_take, if_pos (by omega)]
    · cases hc
  · rename_i r n0
    split at hc
    · rename_i sz' cs0 len hb
      split at hc
      · rename_i he
        obtain ⟨rfl, rfl⟩ := he
        simp only [Option.some.injEq, Prod.mk.injEq] at hc
        obtain ⟨rfl, rfl⟩ := hc
        refine ⟨.eref r n0 (i.toNat * sz'), cs0.drop (i.toNat * sz'), by simp [elemAddr, hb, ix], by simp [ptrCells, hb], fun x hx => by rw [List.getElem?_drop]⟩
      · cases hc
    · rename_i sz' cs0 len hb
      split at hc
      · rename_i he
        obtain ⟨rfl, rfl⟩ := he
        simp only [Option.some.injEq, Prod.mk.injEq] at hc
        obtain ⟨rfl, rfl⟩ := hc
        refine ⟨.eref r n0 (i.toNat * sz'), cs0.drop (i.toNat * sz'), by simp [elemAddr, hb, ix], by simp [ptrCells, hb], fun x hx => by rw [List.getElem?_drop]⟩
      · cases hc
    · cases hc
  · rename_i r n0 off kk
    split at hc
    · rename_i sz' cs0 len hb
      split at hc
      · rename_i he
        obtain ⟨rfl, rfl, _⟩ := he
        simp only [Option.some.injEq, Prod.mk.injEq] at hc
        obtain ⟨rfl, rfl⟩ := hc
        refine ⟨.eref r n0 (off + i.toNat * sz'), cs0.drop (off + i.toNat * sz'), by simp [elemAddr, hb, ix], by simp [ptrCells, hb], fun x hx => ?_⟩
        rw [List.getElem?_drop, List.getElem?_take, if_pos (by omega), List.getElem?_drop]
        congr 1; omega
      · cases hc
    · rename_i sz' cs0 len hb
      split at hc
      · rename_i he
        obtain ⟨rfl, rfl, _⟩ := he
        simp only [Option.some.injEq, Prod.mk.injEq] at hc
        obtain ⟨rfl, rfl⟩ := hc
        refine ⟨.eref r n0 (off + i.toNat * sz'), cs0.drop (off + i.toNat * sz'), by simp [elemAddr, hb, ix], by simp [ptrCells, hb], fun x hx => ?_⟩
        rw [List.getElem?_drop, List.getElem?_take, if_pos (by omega), List.getElem?_drop]
        congr 1; omega
      · cases hc
    · cases hc
  · rename_i r off kk
    split at hc
    · rename_i cs0 hb
      split at hc
      · simp only [Option.some.injEq, Prod.mk.injEq] at hc
        obtain ⟨rfl, rfl⟩ := hc
        refine ⟨.ref r (off + i.toNat * sz), cs0.drop (off + i.toNat * sz), by simp [elemAddr, hb, ix], by simp [ptrCells, hb], fun x hx => ?_⟩
        rw [List.getElem?_drop, List.getElem?_take, if_pos (by omega), List.getElem?_drop]
        congr 1; omega
      · cases hc
    · rename_i cs0 hb
      split at hc
      · simp only [Option.some.injEq, Prod.mk.injEq] at hc
        obtain ⟨rfl, rfl⟩ := hc
        refine ⟨.ref r (off + i.toNat * sz), cs0.drop (off + i.toNat * sz), by simp [elemAddr, hb, ix], by simp [ptrCells, hb], fun x hx => ?_⟩
        rw [List.getElem?_drop, List.getElem?_take, if_pos (by omega), List.getElem?_drop]
        congr 1; omega
      · cases hc
    · cases hc
  · cases hc

/-- A piece of a slice is one. -/
theorem SlOf.sub {h : Heap} {sz : Nat} {d : D} {cs : List D} {n : Nat} (hd : SlOf h sz d cs n) {lo hi : Option D} {a b : Nat} (hb : bnd hi n n = some b) (ha : bnd lo 0 b = some a) (hab : a ≤ b) (hbn : b ≤ n) :
    ∃ p, subSl h sz d lo hi = some p ∧ SlOf h sz p ((cs.drop (a * sz)).take ((b - a) * sz)) (b - a) := by
  have hc := hd.cells
  have hl := hd.len
  have hm : b * sz ≤ n * sz := Nat.mul_le_mul_right _ hbn
  have hm2 : a * sz + (b - a) * sz = b * sz := by rw [← Nat.add_mul]; congr 1; omega
  have hlen : ((cs.drop (a * sz)).take ((b - a) * sz)).length = (b - a) * sz := by simp; omega
  have e0 : a = b → (b - a) = 0 := by omega
  unfold slCells at hc
  split at hc
  · simp only [Option.some.injEq, Prod.mk.injEq] at hc
    obtain ⟨rfl, rfl⟩ := hc
    have : b = 0 := by omega
    subst this
    have : a = 0 := by omega
    subst this
    exact ⟨.nils, by simp [subSl, hb, ha], by simpa using nils_of h sz⟩
  · rename_i cs0 n0 f
    split at hc
    · rename_i hle
      simp only [Option.some.injEq, Prod.mk.injEq] at hc
      obtain ⟨rfl, rfl⟩ := hc
      refine ⟨.sl ((cs0.drop (a * sz)).take ((b - a) * sz)) (b - a) false, by simp [subSl, hle, hb, ha], ?_⟩
      have e : ((cs0.take (n0 * sz)).drop (a * sz)).take ((b - a) * sz) = (cs0.drop (a * sz)).take ((b - a) * sz) := by
        rw [List.drop_take, List.take_take]
        congr 1; omega
      rw [e]
      exact sl_of h sz _ _ _ (by simp; omega)
    · cases hc
  · rename_i r n0
    split at hc
    · rename_i sz' cs0 len hbk
      split at hc
      · rename_i he
        obtain ⟨rfl, rfl⟩ := he
        simp only [Option.some.injEq, Prod.mk.injEq] at hc
        obtain ⟨rfl, rfl⟩ := hc
        by_cases han : a < n0
        · refine ⟨.osl r n0 (a * sz') (b - a), by simp [subSl, hbk, hb, ha, han], .of ?_ hlen⟩
          simp [slCells, hbk]; omega
        · refine ⟨.sl [] 0 false, by simp [subSl, hbk, hb, ha, han], ?_⟩
          rw [show b - a = 0 by omega]; simpa using sl_of h sz' [] 0 false (by simp)
      · cases hc
    · rename_i sz' cs0 len hbk
      split at hc
      · rename_i he
        obtain ⟨rfl, rfl⟩ := he
        simp only [Option.some.injEq, Prod.mk.injEq] at hc
        obtain ⟨rfl, rfl⟩ := hc
        by_cases han : a < n0
        · refine ⟨.osl r n0 (a * sz') (b - a), by simp [subSl, hbk, hb, ha, han], .of ?_ hlen⟩
          simp [slCells, hbk]; omega
        · refine ⟨.sl [] 0 false, by simp [subSl, hbk, hb, ha, han], ?_⟩
          rw [show b - a = 0 by omega]; simpa using sl_of h sz' [] 0 false (by simp)
      · cases hc
    · cases hc
  · rename_i r n0 off kk
    split at hc
    · rename_i sz' cs0 len hbk
      split at hc
      · rename_i he
        obtain ⟨rfl, rfl, hle⟩ := he
        simp only [Option.some.injEq, Prod.mk.injEq] at hc
        obtain ⟨rfl, rfl⟩ := hc
        by_cases han : a < kk
        · refine ⟨.osl r n0 (off + a * sz') (b - a), by simp [subSl, hbk, hb, ha, han], .of ?_ hlen⟩
          have e : (((cs0.drop off).take (kk * sz')).drop (a * sz')).take ((b - a) * sz') = (cs0.drop (off + a * sz')).take ((b - a) * sz') := by
            rw [List.drop_take, List.take_take, List.drop_drop]
            congr 1; omega
          rw [e]
          simp [slCells, hbk]; omega
        · refine ⟨.sl [] 0 false, by simp [subSl, hbk, hb, ha, han], ?_⟩
          rw [show b - a = 0 by omega]; simpa using sl_of h sz' [] 0 false (by simp)
      · cases hc
    · rename_i sz' cs0 len hbk
      split at hc
      · rename_i he
        obtain ⟨rfl, rfl, hle⟩ := he
        simp only [Option.some.injEq, Prod.mk.injEq] at hc
        obtain ⟨rfl, rfl⟩ := hc
        by_cases han : a < kk
        · refine ⟨.osl r n0 (off + a * sz') (b - a), by simp [subSl, hbk, hb, ha, han], .of ?_ hlen⟩
          have e : (((cs0.drop off).take (kk * sz')).drop (a * sz')).take ((b - a) * sz') = (cs0.drop (off + a * sz')).take ((b - a) * sz') := by
            rw [List.drop_take, List.take_take, List.drop_drop]
            congr 1; omega
          rw [e]
          simp [slCells, hbk]; omega
        · refine ⟨.sl [] 0 false, by simp [subSl, hbk, hb, ha, han], ?_⟩
          rw [show b - a = 0 by omega]; simpa using sl_of h sz' [] 0 false (by simp)
      · cases hc
    · cases hc
  · rename_i r off kk
    split at hc
    · rename_i cs0 hbk
      split at hc
      · rename_i hle
        simp only [Option.some.injEq, Prod.mk.injEq] at hc
        obtain ⟨rfl, rfl⟩ := hc
        by_cases han : a < kk
        · refine ⟨.bsl r (off + a * sz) (b - a), by simp [subSl, hbk, hb, ha, han], .of ?_ hlen⟩
          have e : (((cs0.drop off).take (kk * sz)).drop (a * sz)).take ((b - a) * sz) = (cs0.drop (off + a * sz)).take ((b - a) * sz) := by
            rw [List.drop_take, List.take_take, List.drop_drop]
            congr 1; omega
          rw [e]
          simp [slCells, hbk]; omega
        · refine ⟨.sl [] 0 false, by simp [subSl, hbk, hb, ha, han], ?_⟩
          rw [show b - a = 0 by omega]; simpa using sl_of h sz [] 0 false (by simp)
      · cases hc
    · rename_i cs0 hbk
      split at hc
      · rename_i hle
        simp only [Option.some.injEq, Prod.mk.injEq] at hc
        obtain ⟨rfl, rfl⟩ := hc
        by_cases han : a < kk
        · refine ⟨.bsl r (off + a * sz) (b - a), by simp [subSl, hbk, hb, ha, han], .of ?_ hlen⟩
          have e : (((cs0.drop off).take (kk * sz)).drop (a * sz)).take ((b - a) * sz) = (cs0.drop (off + a * sz)).take ((b - a) * sz) := by
            rw [List.drop_take, List.take_take, List.drop_drop]
            congr 1; omega
          rw [e]
          simp [slCells, hbk]; omega
        · refine ⟨.sl [] 0 false, by simp [subSl, hbk, hb, ha, han], ?_⟩
          rw [show b - a = 0 by omega]; simpa using sl_of h sz [] 0 false (by simp)
      · cases hc
    · cases hc
  · cases hc

theorem bytesOf_ofBytes (l : List UInt8) : bytesOf (ofBytes l) = some l := by
  induction l with
  | nil => rfl
  | cons b l ih =>
    have : byteOf (.int .u8 (b.toNat : Int)) = some b := by simp [byteOf]
    simp only [ofBytes, List.map_cons, bytesOf, this, Option.bind_some]
    have ih' : bytesOf (List.map (fun b : UInt8 => D.int .u8 (b.toNat : Int)) l) = some l := ih
    rw [ih']; rfl
theorem ofBytes_length (l : List UInt8) : (ofBytes l).length = l.length := by simp [ofBytes]
theorem ofBytes_append (l r : List UInt8) : ofBytes l ++ ofBytes r = ofBytes (l ++ r) := by simp [ofBytes]
theorem ofBytes_get (l : List UInt8) (i : Nat) : (ofBytes l)[i]? = (l[i]?).map fun b => .int .u8 (b.toNat : Int) := by simp [ofBytes]
theorem ofBytes_one (l : List UInt8) : (ofBytes l).all D.one = true := by simp [ofBytes, D.one]
theorem ofBytes_take (l : List UInt8) (n : Nat) : (ofBytes l).take n = ofBytes (l.take n) := by simp [ofBytes, List.map_take]
theorem ofBytes_drop (l : List UInt8) (n : Nat) : (ofBytes l).drop n = ofBytes (l.drop n) := by simp [ofBytes, List.map_drop]

end Go.YtodlpcoffmnmbaaDoor
