/-
  Own work. The value machine, part U: numbers that are natural ones, by simp.
-/
import Derived.Test.YtodlpcoffmnmbaaDoorVt
namespace Go.YtodlpcoffmnmbaaDoor
open Go
set_option linter.unusedVariables false
set_option linter.unusedSimpArgs false

theorem wrapU (k : IntKind) (hk : k.signed = false) (x : Nat) : k.wrap (x : Int) = ((x % 2 ^ k.bits : Nat) : Int) := by
  simp only [IntKind.wrap, hk, Bool.false_and, Bool.false_eq_true, if_false]
  push_cast; rfl
theorem ofIntNat (n x : Nat) : BitVec.ofInt n (x : Int) = BitVec.ofNat n x := by simp
theorem or_low {x b n : Nat} (h : b < 2 ^ n) : x * 2 ^ n ||| b = x * 2 ^ n + b := by
  rw [Nat.mul_comm, Nat.two_pow_add_eq_or_of_lt h]
theorem ar_shlN {k k' : IntKind} {x : Nat} {b : Int} (hb : 0 ≤ b) (hb' : b.toNat ≤ k.bits) : arith .shl (.int k (x : Int)) (.int k' b) = some (.int k (k.wrap ((x * 2 ^ b.toNat : Nat) : Int))) := by
  rw [ar_shl hb, Nat.min_eq_left hb']
  push_cast; rfl
theorem ar_shrN {k k' : IntKind} {x : Nat} {b : Int} (hb : 0 ≤ b) (hb' : b.toNat ≤ k.bits) : arith .shr (.int k (x : Int)) (.int k' b) = some (.int k ((x / 2 ^ b.toNat : Nat) : Int)) := by
  rw [ar_shr hb, Nat.min_eq_left hb']
  congr 2
  rw [Int.fdiv_eq_ediv_of_nonneg _ (by exact Int.le_of_lt (Int.pow_pos (by omega)))]
  push_cast; rfl
theorem ar_orN {k : IntKind} (hk : k.signed = false) {x y : Nat} (hx : x < 2 ^ k.bits) (hy : y < 2 ^ k.bits) : arith .or (.int k (x : Int)) (.int k (y : Int)) = some (.int k ((x ||| y : Nat) : Int)) := by
  rw [ar_or, wrapU k hk, ofIntNat, ofIntNat, BitVec.toNat_or, BitVec.toNat_ofNat, BitVec.toNat_ofNat, Nat.mod_eq_of_lt hx, Nat.mod_eq_of_lt hy, Nat.mod_eq_of_lt (Nat.or_lt_two_pow hx hy)]
theorem ar_andN {k : IntKind} (hk : k.signed = false) {x y : Nat} (hx : x < 2 ^ k.bits) (hy : y < 2 ^ k.bits) : arith .and (.int k (x : Int)) (.int k (y : Int)) = some (.int k ((x &&& y : Nat) : Int)) := by
  rw [ar_and, wrapU k hk, ofIntNat, ofIntNat, BitVec.toNat_and, BitVec.toNat_ofNat, BitVec.toNat_ofNat, Nat.mod_eq_of_lt hx, Nat.mod_eq_of_lt hy, Nat.mod_eq_of_lt (Nat.and_lt_two_pow _ hy)]
theorem ar_xorN {k : IntKind} (hk : k.signed = false) {x y : Nat} (hx : x < 2 ^ k.bits) (hy : y < 2 ^ k.bits) : arith .xor (.int k (x : Int)) (.int k (y : Int)) = some (.int k ((x ^^^ y : Nat) : Int)) := by
  rw [ar_xor, wrapU k hk, ofIntNat, ofIntNat, BitVec.toNat_xor, BitVec.toNat_ofNat, BitVec.toNat_ofNat, Nat.mod_eq_of_lt hx, Nat.mod_eq_of_lt hy, Nat.mod_eq_of_lt (Nat.xor_lt_two_pow hx hy)]
theorem ar_quoN {k : IntKind} {x y : Nat} (hy : ¬ y = 0) (hw : k.wrap ((x / y : Nat) : Int) = ((x / y : Nat) : Int)) : arith .quo (.int k (x : Int)) (.int k (y : Int)) = some (.int k ((x / y : Nat) : Int)) := by
  rw [ar_quo (by omega), ← hw]; rfl
theorem ar_remN {k : IntKind} {x y : Nat} (hy : ¬ y = 0) : arith .rem (.int k (x : Int)) (.int k (y : Int)) = some (.int k ((x % y : Nat) : Int)) := by
  rw [ar_rem (by omega)]; rfl
section
variable {k' : IntKind} {x y : Nat} {b : Int} {c : UInt8}
theorem shl_u8 (hb : 0 ≤ b) (hb' : b ≤ 8) : arith .shl (.int .u8 (x : Int)) (.int k' b) = some (.int .u8 (IntKind.u8.wrap ((x * 2 ^ b.toNat : Nat) : Int))) := ar_shlN hb (by show b.toNat ≤ 8; omega)
theorem shr_u8 (hb : 0 ≤ b) (hb' : b ≤ 8) : arith .shr (.int .u8 (x : Int)) (.int k' b) = some (.int .u8 ((x / 2 ^ b.toNat : Nat) : Int)) := ar_shrN hb (by show b.toNat ≤ 8; omega)
theorem or_u8 (hx : x < 256) (hy : y < 256) : arith .or (.int .u8 (x : Int)) (.int .u8 (y : Int)) = some (.int .u8 ((x ||| y : Nat) : Int)) := ar_orN rfl hx hy
theorem and_u8 (hx : x < 256) (hy : y < 256) : arith .and (.int .u8 (x : Int)) (.int .u8 (y : Int)) = some (.int .u8 ((x &&& y : Nat) : Int)) := ar_andN rfl hx hy
theorem xor_u8 (hx : x < 256) (hy : y < 256) : arith .xor (.int .u8 (x : Int)) (.int .u8 (y : Int)) = some (.int .u8 ((x ^^^ y : Nat) : Int)) := ar_xorN rfl hx hy
theorem shl_u16 (hb : 0 ≤ b) (hb' : b ≤ 16) : arith .shl (.int .u16 (x : Int)) (.int k' b) = some (.int .u16 (IntKind.u16.wrap ((x * 2 ^ b.toNat : Nat) : Int))) := ar_shlN hb (by show b.toNat ≤ 16; omega)
theorem shr_u16 (hb : 0 ≤ b) (hb' : b ≤ 16) : arith .shr (.int .u16 (x : Int)) (.int k' b) = some (.int .u16 ((x / 2 ^ b.toNat : Nat) : Int)) := ar_shrN hb (by show b.toNat ≤ 16; omega)
theorem or_u16 (hx : x < 65536) (hy : y < 65536) : arith .or (.int .u16 (x : Int)) (.int .u16 (y : Int)) = some (.int .u16 ((x ||| y : Nat) : Int)) := ar_orN rfl hx hy
theorem and_u16 (hx : x < 65536) (hy : y < 65536) : arith .and (.int .u16 (x : Int)) (.int .u16 (y : Int)) = some (.int .u16 ((x &&& y : Nat) : Int)) := ar_andN rfl hx hy
theorem xor_u16 (hx : x < 65536) (hy : y < 65536) : arith .xor (.int .u16 (x : Int)) (.int .u16 (y : Int)) = some (.int .u16 ((x ^^^ y : Nat) : Int)) := ar_xorN rfl hx hy
theorem shl_u32 (hb : 0 ≤ b) (hb' : b ≤ 32) : arith .shl (.int .u32 (x : Int)) (.int k' b) = some (.int .u32 (IntKind.u32.wrap ((x * 2 ^ b.toNat : Nat) : Int))) := ar_shlN hb (by show b.toNat ≤ 32; omega)
theorem shr_u32 (hb : 0 ≤ b) (hb' : b ≤ 32) : arith .shr (.int .u32 (x : Int)) (.int k' b) = some (.int .u32 ((x / 2 ^ b.toNat : Nat) : Int)) := ar_shrN hb (by show b.toNat ≤ 32; omega)
theorem or_u32 (hx : x < 4294967296) (hy : y < 4294967296) : arith .or (.int .u32 (x : Int)) (.int .u32 (y : Int)) = some (.int .u32 ((x ||| y : Nat) : Int)) := ar_orN rfl hx hy
theorem and_u32 (hx : x < 4294967296) (hy : y < 4294967296) : arith .and (.int .u32 (x : Int)) (.int .u32 (y : Int)) = some (.int .u32 ((x &&& y : Nat) : Int)) := ar_andN rfl hx hy
theorem xor_u32 (hx : x < 4294967296) (hy : y < 4294967296) : arith .xor (.int .u32 (x : Int)) (.int .u32 (y : Int)) = some (.int .u32 ((x ^^^ y : Nat) : Int)) := ar_xorN rfl hx hy
theorem shl_u64 (hb : 0 ≤ b) (hb' : b ≤ 64) : arith .shl (.int .u64 (x : Int)) (.int k' b) = some (.int .u64 (IntKind.u64.wrap ((x * 2 ^ b.toNat : Nat) : Int))) := ar_shlN hb (by show b.toNat ≤ 64; omega)
theorem shr_u64 (hb : 0 ≤ b) (hb' : b ≤ 64) : arith .shr (.int .u64 (x : Int)) (.int k' b) = some (.int .u64 ((x / 2 ^ b.toNat : Nat) : Int)) := ar_shrN hb (by show b.toNat ≤ 64; omega)
theorem or_u64 (hx : x < 18446744073709551616) (hy : y < 18446744073709551616) : arith .or (.int .u64 (x : Int)) (.int .u64 (y : Int)) = some (.int .u64 ((x ||| y : Nat) : Int)) := ar_orN rfl hx hy
theorem and_u64 (hx : x < 18446744073709551616) (hy : y < 18446744073709551616) : arith .and (.int .u64 (x : Int)) (.int .u64 (y : Int)) = some (.int .u64 ((x &&& y : Nat) : Int)) := ar_andN rfl hx hy
theorem xor_u64 (hx : x < 18446744073709551616) (hy : y < 18446744073709551616) : arith .xor (.int .u64 (x : Int)) (.int .u64 (y : Int)) = some (.int .u64 ((x ^^^ y : Nat) : Int)) := ar_xorN rfl hx hy
theorem wb_u8 : IntKind.u8.wrap (c.toNat : Int) = (c.toNat : Int) := by have := c.toNat_lt; exact w_u8 (by omega) (by omega)
theorem wb_u16 : IntKind.u16.wrap (c.toNat : Int) = (c.toNat : Int) := by have := c.toNat_lt; exact w_u16 (by omega) (by omega)
theorem wb_u32 : IntKind.u32.wrap (c.toNat : Int) = (c.toNat : Int) := by have := c.toNat_lt; exact w_u32 (by omega) (by omega)
theorem wb_u64 : IntKind.u64.wrap (c.toNat : Int) = (c.toNat : Int) := by have := c.toNat_lt; exact w_u64 (by omega) (by omega)
theorem wb_i64 : IntKind.i64.wrap (c.toNat : Int) = (c.toNat : Int) := by have := c.toNat_lt; exact w_i64 (by omega) (by omega)
end

theorem tdivN {x : Nat} {b : Int} (hb : 0 ≤ b) : (x : Int).tdiv b = ((x / b.toNat : Nat) : Int) := by
  obtain ⟨n, rfl⟩ := Int.eq_ofNat_of_zero_le hb; rfl
theorem tmodN {x : Nat} {b : Int} (hb : 0 ≤ b) : (x : Int).tmod b = ((x % b.toNat : Nat) : Int) := by
  obtain ⟨n, rfl⟩ := Int.eq_ofNat_of_zero_le hb; rfl

theorem ofBytes_snoc {l : List UInt8} {z : Int} (h0 : 0 ≤ z) (h1 : z < 256) : ofBytes l ++ [.int .u8 z] = ofBytes (l ++ [UInt8.ofNat z.toNat]) := by
  rw [← ofBytes_append]
  congr 1
  simp only [ofBytes, List.map_cons, List.map_nil, List.cons.injEq, and_true, D.int.injEq, true_and]
  rw [UInt8.toNat_ofNat_of_lt' (by show z.toNat < 256; omega)]
  omega

theorem it_pos {α : Type} {c : Prop} [Decidable c] {x y : Option α} (hc : c) : (if c then x else y) = x := if_pos hc
theorem it_neg {α : Type} {c : Prop} [Decidable c] {x y : Option α} (hc : ¬ c) : (if c then x else y) = y := if_neg hc

theorem splice1 {cs : List D} {off : Nat} {v : D} : splice cs off [v] = cs.set off v := rfl
theorem splice_all {cs vs : List D} (h : cs.length = vs.length) : splice cs 0 vs = vs := by
  unfold splice
  split
  · rename_i v
    match cs, h with
    | [c], _ => rfl
  · simp only [List.take_zero, List.nil_append, Nat.zero_add]
    rw [List.drop_of_length_le (by omega), List.append_nil]
theorem splice_rep {vs : List D} {n : Nat} {d : D} (h : vs.length = n) : splice (List.replicate n d) 0 vs = vs := splice_all (by simp [h])
theorem splice_reps {n : Nat} {c d : D} : splice (List.replicate n d) 0 (List.replicate n c) = List.replicate n c := splice_all (by simp)
theorem splice0 {cs l : List D} {a b : D} : splice cs 0 (a :: b :: l) = (a :: b :: l) ++ cs.drop (l.length + 2) := by
  simp [splice]
theorem spliceN {cs l : List D} {a b c : D} {off : Nat} : splice (c :: cs) off (a :: b :: l) = (c :: cs).take off ++ ((a :: b :: l) ++ (c :: cs).drop (off + (l.length + 2))) := by
  simp [splice]
theorem len_rep {n : Nat} {d : D} : (List.replicate n d).length = n := by simp
theorem take_rep {n : Nat} {d : D} : (List.replicate n d).take n = List.replicate n d := by simp
theorem all_rep {n : Nat} {d : D} (h : d.one = true) : (List.replicate n d).all D.one = true := by simp [List.all_replicate, h]
theorem all_rep_i {n : Nat} {k : IntKind} {z : Int} : (List.replicate n (D.int k z)).all D.one = true := all_rep rfl

theorem mk_bs {l : List UInt8} : ({ data := l.toArray } : ByteArray) = bs l := rfl
/-- Lengths where parts are laid. -/
def clen (cs : List D) : Nat := cs.length
theorem clen_set {cs : List D} {i : Nat} {x : D} : clen (cs.set i x) = clen cs := by simp [clen]
theorem clen_rep {n : Nat} {x : D} : clen (List.replicate n x) = n := by simp [clen]
theorem clen_cons {cs : List D} {x : D} : clen (x :: cs) = clen cs + 1 := rfl
theorem clen_nil : clen [] = 0 := rfl
theorem clen_app {cs ds : List D} : clen (cs ++ ds) = clen cs + clen ds := by simp [clen]
theorem fill_c {cs : List D} {off size : Nat} {x : D} {r : List (Nat × Nat × D)} : fillD cs ((off, size, x) :: r) = if laid x = true ∧ (vcells x).length = size ∧ off + size ≤ clen cs then fillD (splice cs off (vcells x)) r else none := rfl
theorem fill0 {cs : List D} : fillD cs [] = some cs := rfl
theorem fill1i {z : D} {k : IntKind} {n : Int} : fillD [z] [(0, 1, .int k n)] = some [.int k n] := rfl
theorem fill1s {z : D} {s : ByteArray} : fillD [z] [(0, 1, .str s)] = some [.str s] := rfl
theorem fill1b {z : D} {b : Bool} : fillD [z] [(0, 1, .bool b)] = some [.bool b] := rfl
theorem ek_b {a c : Bool} : D.eqk .kb (.bool a) (.bool c) = some (a == c) := rfl
theorem ek_i {k : IntKind} {a c : Int} : D.eqk .ki (.int k a) (.int k c) = some (a == c) := by simp [D.eqk]
theorem ek_s {a c : ByteArray} : D.eqk .ks (.str a) (.str c) = some (a.toList == c.toList) := rfl
theorem eq_bytes : ∀ {n : Nat} {l r : List UInt8}, l.length = n → r.length = n → eqCells (List.replicate n .ki) (ofBytes l) (ofBytes r) = some (decide (l = r))
  | 0, [], [], _, _ => rfl
  | n + 1, a :: l, b :: r, h1, h2 => by
    have ih := eq_bytes (n := n) (l := l) (r := r) (by simpa using h1) (by simpa using h2)
    simp only [ofBytes] at ih
    simp only [List.replicate_succ, ofBytes, List.map_cons, eqCells, ek_i, Option.bind_some, ih, Option.map_some]
    congr 1
    by_cases e : a = b
    · subst e; simp
    · have : ¬ (a.toNat : Int) = b.toNat := by
        intro h; apply e; apply UInt8.toNat_inj.1; omega
      simp [e, this]

/-! ### blocks that lie low -/
theorem set_low {h L : Heap} {r : Nat} {b : Blk} (hr : r < h.length) : (h ++ L).set r b = h.set r b ++ L := List.set_append_left r b hr
theorem lt_of_get {h : Heap} {r : Nat} {b : Blk} (hb : h[r]? = some b) : r < h.length := (List.getElem?_eq_some_iff.1 hb).1
theorem get_set {h : Heap} {r : Nat} {b : Blk} (hr : r < h.length) : (h.set r b)[r]? = some b := by rw [List.getElem?_set_self hr]
theorem set_set {h : Heap} {r : Nat} {b c : Blk} : (h.set r b).set r c = h.set r c := by simp

end Go.YtodlpcoffmnmbaaDoor
