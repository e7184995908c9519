/-
  Own work. Make, Halves and Last, the program's and the document's.
-/
import Derived.Test.YtodlpcoffmnmbaaDoorPd
import Derived.Test.YtodlpcoffmnmbaaDoorPf
import Derived.Test.YtodlpcoffmnmbaaDoorPe
namespace Go.Proofs
open Go Go.YtodlpcoffmnmbaaDoor
set_option linter.unusedVariables false
set_option linter.unusedSimpArgs false
set_option maxRecDepth 10000



theorem pc_zero : pc 0 (zeros 16) 0 = [.int .i64 0, .int .u8 0, .int .u8 0, .int .u8 0, .int .u8 0, .int .u8 0, .int .u8 0, .int .u8 0, .int .u8 0, .int .u8 0, .int .u8 0, .int .u8 0, .int .u8 0, .int .u8 0, .int .u8 0, .int .u8 0, .int .u8 0, .int .i64 0] := rfl
theorem zeros_len (n : Nat) : (zeros n).length = n := by simp [zeros]
theorem pc_over {v n w m : Int} {a b : List UInt8} (hb : b.length = 16) (ha : a.length = 16) : splice (pc w b m) 0 (pc v a n) = pc v a n := splice_all (by rw [pc_len hb, pc_len ha])
theorem pc_fill {v n : Int} {a : List UInt8} (ha : a.length = 16) : fillD (pc 0 (zeros 16) 0) [(0, 1, .int .i64 v), (1, 16, .agg (ofBytes a)), (17, 1, .int .i64 n)] = some (pc v a n) := by
  have hl : (ofBytes a).length = 16 := by rw [ofBytes_length, ha]
  have ho := ofBytes_one a
  rw [fillD, if_pos ⟨rfl, rfl, by rw [pc_len (zeros_len 16)]; omega⟩]
  have e1 : splice (pc 0 (zeros 16) 0) 0 (vcells (.int .i64 v)) = pc v (zeros 16) 0 := rfl
  rw [e1, fillD, if_pos ⟨by simpa [laid] using ho, by simpa [vcells] using hl, by rw [pc_len (zeros_len 16)]; omega⟩]
  have e2 : splice (pc v (zeros 16) 0) 1 (vcells (.agg (ofBytes a))) = pc v a 0 := by
    rw [splice_eq _ _ _ (by rw [pc_len (zeros_len 16)]; simp [vcells, hl])]
    simp only [vcells, hl]
    rw [pc, pc, List.take_succ_cons, List.take_zero, List.drop_succ_cons]
    rw [List.drop_append_of_le_length (by simp [ofBytes_length, zeros]), List.drop_eq_nil_of_le (by simp [ofBytes_length, zeros])]
    rfl
  rw [e2, fillD, if_pos ⟨rfl, rfl, by rw [pc_len ha]; omega⟩, fillD]
  congr 1
  show (pc v a 0).set 17 (.int .i64 n) = pc v a n
  rw [pc, pc, List.set_cons_succ, List.set_append_right _ _ (by omega), hl]; rfl
theorem pc_setn {v n m : Int} {a : List UInt8} (ha : a.length = 16) : (pc v a n).set 17 (.int .i64 m) = pc v a m := by
  have hl : (ofBytes a).length = 16 := by rw [ofBytes_length, ha]
  rw [pc, pc, List.set_cons_succ, List.set_append_right _ _ (by omega), hl]; rfl

theorem shr128 (k : Nat) (h : k < 8) : arith .shr (.int .u8 128) (.int .u64 (k : Int)) = some (.int .u8 ((2 ^ (7 - k) : Nat) : Int)) := by
  have h1 := shr_u8 (x := 128) (k' := .u64) (b := (k : Int)) (by omega) (by omega)
  have h2 : ∀ k : Fin 8, 128 / 2 ^ k.val = 2 ^ (7 - k.val) := by decide
  have h3 := h2 ⟨k, h⟩
  simp only [Int.toNat_natCast] at h1
  simp only at h3
  rw [h3] at h1
  exact h1
theorem pc_byte {v n : Int} {a : List UInt8} (ha : a.length = 16) {k : Nat} (hk : k < 16) : (List.drop (1 + k) (pc v a n))[0]? = some (.int .u8 ((a.getD k 0).toNat : Int)) := by
  have hl : (ofBytes a).length = 16 := by rw [ofBytes_length, ha]
  rw [Nat.add_comm, pc, List.drop_succ_cons, List.drop_append_of_le_length (by omega), List.getElem?_append_left (by rw [List.length_drop]; omega)]
  exact byte_at ha hk
theorem pc_setb {v n : Int} {a : List UInt8} (ha : a.length = 16) {k : Nat} (hk : k < 16) (b : UInt8) : (pc v a n).set (1 + k) (.int .u8 (b.toNat : Int)) = pc v (a.set k b) n := by
  have hl : (ofBytes a).length = 16 := by rw [ofBytes_length, ha]
  rw [Nat.add_comm, pc, pc, List.set_cons_succ, List.set_append_left _ _ (by omega), ofBytes_put]
theorem i64_add1 {n : Nat} (h : n ≤ 128) : IntKind.i64.wrap ((n : Int) + 1) = (n : Int) + 1 := w_i64 (by omega) (by omega)
theorem half_set (a : List UInt8) (n : Nat) : ((a.getD (n / 8) 0).toNat ||| 2 ^ (7 - n % 8)) = (UInt8.ofNat ((a.getD (n / 8) 0).toNat ||| 2 ^ (7 - n % 8))).toNat :=
  (UInt8.toNat_ofNat_of_lt' (by exact or_lt _ (by omega))).symm

end Go.Proofs
