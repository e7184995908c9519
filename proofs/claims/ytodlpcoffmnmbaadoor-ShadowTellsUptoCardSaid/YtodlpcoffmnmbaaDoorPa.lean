/-
  Own work. Plain laws of addresses: bits, the first ones, one that is set.
-/
import Derived.Test.YtodlpcoffmnmbaaDoorVz
namespace Go.Proofs
open Go Go.YtodlpcoffmnmbaaDoor
set_option linter.unusedVariables false
set_option linter.unusedSimpArgs false
set_option maxRecDepth 10000

/-- A bit of an address, the highest one of its first byte first. -/
def abit (a : List UInt8) (i : Nat) : Bool := (a.getD (i / 8) 0).toNat.testBit (7 - i % 8)
theorem byte_hi (b : UInt8) {j : Nat} (h : 8 ≤ j) : b.toNat.testBit j = false := by
  have h1 := b.toNat_lt
  have h2 : 2 ^ 8 ≤ 2 ^ j := Nat.pow_le_pow_right (by omega) h
  exact Nat.testBit_lt_two_pow (by omega)
theorem addr_ext {a b : List UInt8} {n : Nat} (ha : a.length = n) (hb : b.length = n) (h : ∀ i < 8 * n, abit a i = abit b i) : a = b := by
  apply List.ext_getElem (by rw [ha, hb])
  intro k h1 h2
  have e1 : a[k] = a.getD k 0 := by simp [List.getD_eq_getElem?_getD, List.getElem?_eq_getElem h1]
  have e2 : b[k] = b.getD k 0 := by simp [List.getD_eq_getElem?_getD, List.getElem?_eq_getElem h2]
  rw [e1, e2]
  apply UInt8.toNat_inj.1
  apply Nat.eq_of_testBit_eq
  intro j
  by_cases hj : j < 8
  · have := h (8 * k + (7 - j)) (by omega)
    unfold abit at this
    rw [show (8 * k + (7 - j)) / 8 = k by omega, show 7 - (8 * k + (7 - j)) % 8 = j by omega] at this
    exact this
  · rw [byte_hi _ (by omega), byte_hi _ (by omega)]
theorem getD_set8 (a : List UInt8) (i : Nat) (x : UInt8) (j : Nat) : (a.set i x).getD j 0 = if i = j ∧ j < a.length then x else a.getD j 0 := by
  rw [List.getD_eq_getElem?_getD, List.getD_eq_getElem?_getD, List.getElem?_set]
  by_cases h : i = j
  · subst h
    by_cases h2 : i < a.length
    · simp [h2]
    · simp [h2]
  · simp [h]
/-- With a bit set. -/
def setA (a : List UInt8) (i : Nat) : List UInt8 := a.set (i / 8) (UInt8.ofNat ((a.getD (i / 8) 0).toNat ||| 2 ^ (7 - i % 8)))
theorem setA_length (a : List UInt8) (i : Nat) : (setA a i).length = a.length := by simp [setA]
theorem or_lt (b : UInt8) {s : Nat} (h : s < 8) : b.toNat ||| 2 ^ s < 256 := by
  have h1 := b.toNat_lt
  have h2 : 2 ^ s < 2 ^ 8 := Nat.pow_lt_pow_right (by omega) h
  exact Nat.or_lt_two_pow (n := 8) (by omega) h2
theorem setA_bit {a : List UInt8} {i : Nat} (h : i / 8 < a.length) (j : Nat) : abit (setA a i) j = (decide (j = i) || abit a j) := by
  unfold abit setA
  rw [getD_set8]
  by_cases e : i / 8 = j / 8
  · rw [if_pos ⟨e, by omega⟩, UInt8.toNat_ofNat_of_lt' (by exact or_lt _ (by omega)), Nat.testBit_or, Nat.testBit_two_pow, e, Bool.or_comm]
    congr 1
    rw [decide_eq_decide]; omega
  · rw [if_neg (by omega)]
    have : ¬ j = i := by omega
    simp [this]
def zeros (n : Nat) : List UInt8 := List.replicate n 0
theorem zeros_bit (n i : Nat) : abit (zeros n) i = false := by
  have : (zeros n).getD (i / 8) 0 = 0 := by
    rw [zeros, List.getD_eq_getElem?_getD, List.getElem?_replicate]; split <;> rfl
  unfold abit
  rw [this]; simp
/-- The first bits, all others 0. -/
def frontTo (a : List UInt8) : Nat → List UInt8
  | 0 => zeros 16
  | n + 1 => if abit a n then setA (frontTo a n) n else frontTo a n
theorem frontTo_length (a : List UInt8) : ∀ n, (frontTo a n).length = 16
  | 0 => by simp [frontTo, zeros]
  | n + 1 => by
    rw [frontTo]; split
    · rw [setA_length, frontTo_length a n]
    · exact frontTo_length a n
theorem frontTo_bit (a : List UInt8) : ∀ n, n ≤ 128 → ∀ j, abit (frontTo a n) j = (decide (j < n) && abit a j)
  | 0, _, j => by rw [frontTo, zeros_bit]; simp
  | n + 1, h, j => by
    have ih := frontTo_bit a n (by omega) j
    rw [frontTo]
    by_cases hn : abit a n = true
    · rw [if_pos hn, setA_bit (by rw [frontTo_length]; omega), ih]
      by_cases e : j = n
      · subst e; simp [hn]
      · have : (j < n + 1) ↔ j < n := by omega
        simp [e, this]
    · rw [if_neg hn, ih]
      by_cases e : j = n
      · subst e
        have : abit a j = false := by simpa using hn
        simp [this]
      · have : (j < n + 1) ↔ j < n := by omega
        simp [this]
/-- What is left of a byte. -/
def maskB (b : UInt8) (left : Nat) : UInt8 := if left = 0 then 0 else if left < 8 then UInt8.ofNat (b.toNat &&& ((255 <<< (8 - left)) % 256)) else b
theorem maskB_lt (b : UInt8) (s : Nat) : b.toNat &&& ((255 <<< s) % 256) < 256 := Nat.lt_of_le_of_lt Nat.and_le_left b.toNat_lt
theorem maskB_bit (b : UInt8) (left j : Nat) (hj : j < 8) : (maskB b left).toNat.testBit (7 - j) = (decide (j < left) && b.toNat.testBit (7 - j)) := by
  unfold maskB
  by_cases h0 : left = 0
  · rw [if_pos h0, h0]; simp
  · rw [if_neg h0]
    by_cases h8 : left < 8
    · rw [if_pos h8, UInt8.toNat_ofNat_of_lt' (by exact maskB_lt _ _), Nat.testBit_and, show (256 : Nat) = 2 ^ 8 by rfl, Nat.testBit_mod_two_pow, Nat.testBit_shiftLeft, show (255 : Nat) = 2 ^ 8 - 1 by rfl, Nat.testBit_two_pow_sub_one, Bool.and_comm]
      congr 1
      have e1 : decide (7 - j < 8) = true := decide_eq_true (by omega)
      have e2 : decide (7 - j - (8 - left) < 8) = true := decide_eq_true (by omega)
      rw [e1, e2, Bool.true_and, Bool.and_true, decide_eq_decide]
      omega
    · rw [if_neg h8]
      have : j < left := by omega
      simp [this]
/-- The first k bytes masked. -/
def maskTo (a : List UInt8) (n k : Nat) : List UInt8 := (List.range 16).map fun i => if i < k then maskB (a.getD i 0) (n - 8 * i) else a.getD i 0
theorem maskTo_length (a : List UInt8) (n k : Nat) : (maskTo a n k).length = 16 := by simp [maskTo]
theorem maskTo_getD (a : List UInt8) (n k i : Nat) (h : i < 16) : (maskTo a n k).getD i 0 = if i < k then maskB (a.getD i 0) (n - 8 * i) else a.getD i 0 := by
  rw [List.getD_eq_getElem?_getD, maskTo, List.getElem?_map, List.getElem?_range h]; rfl
theorem bytes_ext {a b : List UInt8} (hl : a.length = b.length) (h : ∀ i < a.length, a.getD i 0 = b.getD i 0) : a = b := by
  apply List.ext_getElem hl
  intro k h1 h2
  have := h k h1
  rwa [List.getD_eq_getElem?_getD, List.getD_eq_getElem?_getD, List.getElem?_eq_getElem h1, List.getElem?_eq_getElem h2] at this
theorem maskTo_zero {a : List UInt8} (ha : a.length = 16) (n : Nat) : maskTo a n 0 = a := by
  refine bytes_ext (by rw [maskTo_length, ha]) fun i hi => ?_
  rw [maskTo_length] at hi
  rw [maskTo_getD _ _ _ _ hi, if_neg (by omega)]
theorem maskTo_set (a : List UInt8) (n k : Nat) (h : k < 16) : (maskTo a n k).set k (maskB (a.getD k 0) (n - 8 * k)) = maskTo a n (k + 1) := by
  refine bytes_ext (by rw [List.length_set, maskTo_length, maskTo_length]) fun i hi => ?_
  rw [List.length_set, maskTo_length] at hi
  rw [getD_set8, maskTo_length, maskTo_getD _ _ _ _ hi, maskTo_getD _ _ _ _ hi]
  by_cases e : k = i
  · subst e
    rw [if_pos ⟨rfl, h⟩, if_pos (by omega)]
  · rw [if_neg (by omega)]
    have : (i < k + 1) ↔ i < k := by omega
    simp only [this]
theorem mask_front {a : List UInt8} {n : Nat} (hn : n ≤ 128) : maskTo a n 16 = frontTo a n := by
  refine addr_ext (maskTo_length _ _ _) (frontTo_length _ _) fun i hi => ?_
  rw [frontTo_bit _ _ hn]
  unfold abit
  rw [maskTo_getD _ _ _ _ (by omega), if_pos (by omega), maskB_bit _ _ _ (by omega)]
  congr 1
  rw [decide_eq_decide]; omega
theorem frontTo_eq {a b : List UInt8} {n : Nat} (hn : n ≤ 128) (hb : b.length = 16) : frontTo a n = b ↔ (∀ i < n, abit a i = abit b i) ∧ ∀ i, n ≤ i → i < 128 → abit b i = false := by
  constructor
  · rintro rfl
    refine ⟨fun i hi => ?_, fun i h1 h2 => ?_⟩
    · rw [frontTo_bit _ _ hn]; simp [hi]
    · rw [frontTo_bit _ _ hn]
      have : ¬ i < n := by omega
      simp [this]
  · rintro ⟨h1, h2⟩
    refine addr_ext (frontTo_length _ _) hb fun i hi => ?_
    rw [frontTo_bit _ _ hn]
    by_cases h : i < n
    · simp [h, h1 i h]
    · rw [h2 i (by omega) (by omega)]; simp [h]

/-! ### Prefixes -/
def mostF (v : Int) : Option Nat := if v = 4 then some 32 else if v = 6 then some 128 else none
/-- What is wrong with a prefix: the sort of fault, 0 where there is none. -/
def fitsF (v n : Int) : Int := match mostF v with
  | none => 4
  | some m => if n < 0 ∨ (m : Int) < n then 1 else 0
def checkF (v : Int) (a : List UInt8) (n : Int) : Int := if fitsF v n ≠ 0 then fitsF v n else if frontTo a n.toNat = a then 0 else 5
end Go.Proofs
