/-
  Own work. The walk of prefix.Last.
-/
import Derived.Test.YtodlpcoffmnmbaaDoorPc
namespace Go.Proofs
open Go Go.YtodlpcoffmnmbaaDoor
set_option linter.unusedVariables false
set_option linter.unusedSimpArgs false
set_option maxRecDepth 10000



def lastB (b : UInt8) (left : Nat) : UInt8 := if left = 0 then 255 else if left < 8 then UInt8.ofNat (b.toNat ||| (255 >>> left)) else b
theorem lastB_lt (b : UInt8) (s : Nat) : b.toNat ||| (255 >>> s) < 256 := by
  refine Nat.or_lt_two_pow (n := 8) b.toNat_lt ?_
  rw [Nat.shiftRight_eq_div_pow]
  exact Nat.lt_of_le_of_lt (Nat.div_le_self _ _) (by omega)
theorem lastB_bit (b : UInt8) (left j : Nat) (hj : j < 8) : (lastB b left).toNat.testBit (7 - j) = (decide (left ≤ j) || b.toNat.testBit (7 - j)) := by
  unfold lastB
  by_cases h0 : left = 0
  · rw [if_pos h0, h0, show (255 : UInt8).toNat = 2 ^ 8 - 1 from rfl, Nat.testBit_two_pow_sub_one]
    simp; omega
  · rw [if_neg h0]
    by_cases h8 : left < 8
    · rw [if_pos h8, UInt8.toNat_ofNat_of_lt' (by exact lastB_lt _ _), Nat.testBit_or, Nat.testBit_shiftRight, show (255 : Nat) = 2 ^ 8 - 1 by rfl, Nat.testBit_two_pow_sub_one, Bool.or_comm]
      congr 1
      rw [decide_eq_decide]
      omega
    · rw [if_neg h8]
      have : ¬ left ≤ j := by omega
      simp [this]
/-- The first k bytes with all bits behind the first n. -/
def lastTo (a : List UInt8) (n k : Nat) : List UInt8 := (List.range 16).map fun i => if i < k then lastB (a.getD i 0) (n - 8 * i) else a.getD i 0
theorem lastTo_length (a : List UInt8) (n k : Nat) : (lastTo a n k).length = 16 := by simp [lastTo]
theorem lastTo_getD (a : List UInt8) (n k i : Nat) (h : i < 16) : (lastTo a n k).getD i 0 = if i < k then lastB (a.getD i 0) (n - 8 * i) else a.getD i 0 := by
  rw [List.getD_eq_getElem?_getD, lastTo, List.getElem?_map, List.getElem?_range h]; rfl
theorem lastTo_zero {a : List UInt8} (ha : a.length = 16) (n : Nat) : lastTo a n 0 = a := by
  refine bytes_ext (by rw [lastTo_length, ha]) fun i hi => ?_
  rw [lastTo_length] at hi
  rw [lastTo_getD _ _ _ _ hi, if_neg (by omega)]
theorem lastTo_set (a : List UInt8) (n k : Nat) (h : k < 16) : (lastTo a n k).set k (lastB (a.getD k 0) (n - 8 * k)) = lastTo a n (k + 1) := by
  refine bytes_ext (by rw [List.length_set, lastTo_length, lastTo_length]) fun i hi => ?_
  rw [List.length_set, lastTo_length] at hi
  rw [getD_set8, lastTo_length, lastTo_getD _ _ _ _ hi, lastTo_getD _ _ _ _ hi]
  by_cases e : k = i
  · subst e
    rw [if_pos ⟨rfl, h⟩, if_pos (by omega)]
  · rw [if_neg (by omega)]
    have : (i < k + 1) ↔ i < k := by omega
    simp only [this]
theorem lastTo_bit (a : List UInt8) (n k i : Nat) (hi : i < 128) : abit (lastTo a n k) i = if i / 8 < k then (decide (n ≤ i) || abit a i) else abit a i := by
  unfold abit
  rw [lastTo_getD _ _ _ _ (by omega)]
  split
  · rw [lastB_bit _ _ _ (by omega)]
    congr 1
    rw [decide_eq_decide]; omega
  · rfl
/-- The last address that has a prefix. -/
def lastF (v : Int) (a : List UInt8) (n : Int) : List UInt8 := if checkF v a n = 0 then lastTo a n.toNat ((mostN v).toNat / 8) else zeros 16
theorem lastF_length (v : Int) (a : List UInt8) (n : Int) : (lastF v a n).length = 16 := by
  unfold lastF; split
  · exact lastTo_length _ _ _
  · simp [zeros]
end Go.Proofs
