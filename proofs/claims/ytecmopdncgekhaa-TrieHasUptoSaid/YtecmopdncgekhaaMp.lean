import Derived.Test.YtecmopdncgekhaaVz
/-
  Own work. Plain laws of addresses: bits, the first ones, one that is set.
-/
namespace Go.Proofs
open Go Go.Ytecmopdncgekhaa
set_option linter.unusedVariables false
set_option linter.unusedSimpArgs false
set_option maxRecDepth 10000

/-- A bit of an address, the highest one of its first byte first. -/
def abit (a : List UInt8) (i : Nat) : Bool := (a.getD (i / 8) 0).toNat.testBit (7 - i % 8)
theorem byte_hi (b : UInt8) {j : Nat} (h : 8 ≤ j) : b.toNat.testBit j = false := by
  have h1 := b.toNat_lt
  have h2 : 2 ^ 8 ≤ 2 ^ j := Nat.pow_le_pow_right (by omega) h
  exact Nat.testBit_lt_two_pow (by omega)
theorem addr_ext {a b : List UInt8} {n : Nat} (ha : a.length = n) (hb : b.length = n) (h : ∀ i < 8 * n, abit a i = abit b i) : a = b := by
  apply List.ext_getElem (by rw [ha, hb])
  intro k h1 h2
  have e1 : a[k] = a.getD k 0 := by simp [List.getD_eq_getElem?_getD, List.getElem?_eq_getElem h1]
  have e2 : b[k] = b.getD k 0 := by simp [List.getD_eq_getElem?_getD, List.getElem?_eq_getElem h2]
  rw [e1, e2]
  apply UInt8.toNat_inj.1
  apply Nat.eq_of_testBit_eq
  intro j
  by_cases hj : j < 8
  · have := h (8 * k + (7 - j)) (by omega)
    unfold abit at this
    rw [show (8 * k + (7 - j)) / 8 = k by omega, show 7 - (8 * k + (7 - j)) % 8 = j by omega] at this
    exact this
  · rw [byte_hi _ (by omega), byte_hi _ (by omega)]
theorem getD_set8 (a : List UInt8) (i : Nat) (x : UInt8) (j : Nat) : (a.set i x).getD j 0 = if i = j ∧ j < a.length then x else a.getD j 0 := by
  rw [List.getD_eq_getElem?_getD, List.getD_eq_getElem?_getD, List.getElem?_set]
  by_cases h : i = j
  · subst h
    by_cases h2 : i < a.length
    · simp [h2]
    · simp [h2]
  · simp [h]
/-- With a bit set. -/
def setA (a : List UInt8) (i : Nat) : List UInt8 := a.set (i / 8) (UInt8.ofNat ((a.getD (i / 8) 0).toNat ||| 2 ^ (7 - i % 8)))
theorem setA_length (a : List UInt8) (i : Nat) : (setA a i).length = a.length := by simp [setA]
theorem or_lt (b : UInt8) {s : Nat} (h : s < 8) : b.toNat ||| 2 ^ s < 256 := by
  have h1 := b.toNat_lt
  have h2 : 2 ^ s < 2 ^ 8 := Nat.pow_lt_pow_right (by omega) h
  exact Nat.or_lt_two_pow (n := 8) (by omega) h2
theorem setA_bit {a : List UInt8} {i : Nat} (h : i / 8 < a.length) (j : Nat) : abit (setA a i) j = (decide (j = i) || abit a j) := by
  unfold abit setA
  rw [getD_set8]
  by_cases e : i / 8 = j / 8
  · rw [if_pos ⟨e, by omega⟩, UInt8.toNat_ofNat_of_lt' (by exact or_lt _ (by omega)), Nat.testBit_or, Nat.testBit_two_pow, e, Bool.or_comm]
    congr 1
    rw [decide_eq_decide]; omega
  · rw [if_neg (by omega)]
    have : ¬ j = i := by omega
    simp [this]
def zeros (n : Nat) : List UInt8 := List.replicate n 0
theorem zeros_bit (n i : Nat) : abit (zeros n) i = false := by
  have : (zeros n).getD (i / 8) 0 = 0 := by
    rw [zeros, List.getD_eq_getElem?_getD, List.getElem?_replicate]; split <;> rfl
  unfold abit
  rw [this]; simp
/-- The first bits, all others 0. -/
def frontTo (a : List UInt8) : Nat → List UInt8
  | 0 => zeros 16
  | n + 1 => if abit a n then setA (frontTo a n) n else frontTo a n
theorem frontTo_length (a : List UInt8) : ∀ n, (frontTo a n).length = 16
  | 0 => by simp [frontTo, zeros]
  | n + 1 => by
    rw [frontTo]; split
    · rw [setA_length, frontTo_length a n]
    · exact frontTo_length a n
theorem frontTo_bit (a : List UInt8) : ∀ n, n ≤ 128 → ∀ j, abit (frontTo a n) j = (decide (j < n) && abit a j)
  | 0, _, j => by rw [frontTo, zeros_bit]; simp
  | n + 1, h, j => by
    have ih := frontTo_bit a n (by omega) j
    rw [frontTo]
    by_cases hn : abit a n = true
    · rw [if_pos hn, setA_bit (by rw [frontTo_length]; omega), ih]
      by_cases e : j = n
      · subst e; simp [hn]
      · have : (j < n + 1) ↔ j < n := by omega
        simp [e, this]
    · rw [if_neg hn, ih]
      by_cases e : j = n
      · subst e
        have : abit a j = false := by simpa using hn
        simp [this]
      · have : (j < n + 1) ↔ j < n := by omega
        simp [this]
/-- What is left of a byte. -/
def maskB (b : UInt8) (left : Nat) : UInt8 := if left = 0 then 0 else if left < 8 then UInt8.ofNat (b.toNat &&& ((255 <<< (8 - left)) % 256)) else b
theorem maskB_lt (b : UInt8) (s : Nat) : b.toNat &&& ((255 <<< s) % 256) < 256 := Nat.lt_of_le_of_lt Nat.and_le_left b.toNat_lt
theorem maskB_bit (b : UInt8) (left j : Nat) (hj : j < 8) : (maskB b left).toNat.testBit (7 - j) = (decide (j < left) && b.toNat.testBit (7 - j)) := by
  unfold maskB
  by_cases h0 : left = 0
  · rw [if_pos h0, h0]; simp
  · rw [if_neg h0]
    by_cases h8 : left < 8
    · rw [if_pos h8, UInt8.toNat_ofNat_of_lt' (by exact maskB_lt _ _), Nat.testBit_and, show (256 : Nat) = 2 ^ 8 by rfl, Nat.testBit_mod_two_pow, Nat.testBit_shiftLeft, show (255 : Nat) = 2 ^ 8 - 1 by rfl, Nat.testBit_two_pow_sub_one, Bool.and_comm]
      congr 1
      have e1 : decide (7 - j < 8) = true := decide_eq_true (by omega)
      have e2 : decide (7 - j - (8 - left) < 8) = true := decide_eq_true (by omega)
      rw [e1, e2, Bool.true_and, Bool.and_true, decide_eq_decide]
      omega
    · rw [if_neg h8]
      have : j < left := by omega
      simp [this]
/-- The first k bytes masked. -/
def maskTo (a : List UInt8) (n k : Nat) : List UInt8 := (List.range 16).map fun i => if i < k then maskB (a.getD i 0) (n - 8 * i) else a.getD i 0
theorem maskTo_length (a : List UInt8) (n k : Nat) : (maskTo a n k).length = 16 := by simp [maskTo]
theorem maskTo_getD (a : List UInt8) (n k i : Nat) (h : i < 16) : (maskTo a n k).getD i 0 = if i < k then maskB (a.getD i 0) (n - 8 * i) else a.getD i 0 := by
  rw [List.getD_eq_getElem?_getD, maskTo, List.getElem?_map, List.getElem?_range h]; rfl
theorem bytes_ext {a b : List UInt8} (hl : a.length = b.length) (h : ∀ i < a.length, a.getD i 0 = b.getD i 0) : a = b := by
  apply List.ext_getElem hl
  intro k h1 h2
  have := h k h1
  rwa [List.getD_eq_getElem?_getD, List.getD_eq_getElem?_getD, List.getElem?_eq_getElem h1, List.getElem?_eq_getElem h2] at this
theorem maskTo_zero {a : List UInt8} (ha : a.length = 16) (n : Nat) : maskTo a n 0 = a := by
  refine bytes_ext (by rw [maskTo_length, ha]) fun i hi => ?_
  rw [maskTo_length] at hi
  rw [maskTo_getD _ _ _ _ hi, if_neg (by omega)]
theorem maskTo_set (a : List UInt8) (n k : Nat) (h : k < 16) : (maskTo a n k).set k (maskB (a.getD k 0) (n - 8 * k)) = maskTo a n (k + 1) := by
  refine bytes_ext (by rw [List.length_set, maskTo_length, maskTo_length]) fun i hi => ?_
  rw [List.length_set, maskTo_length] at hi
  rw [getD_set8, maskTo_length, maskTo_getD _ _ _ _ hi, maskTo_getD _ _ _ _ hi]
  by_cases e : k = i
  · subst e
    rw [if_pos ⟨rfl, h⟩, if_pos (by omega)]
  · rw [if_neg (by omega)]
    have : (i < k + 1) ↔ i < k := by omega
    simp only [this]
theorem mask_front {a : List UInt8} {n : Nat} (hn : n ≤ 128) : maskTo a n 16 = frontTo a n := by
  refine addr_ext (maskTo_length _ _ _) (frontTo_length _ _) fun i hi => ?_
  rw [frontTo_bit _ _ hn]
  unfold abit
  rw [maskTo_getD _ _ _ _ (by omega), if_pos (by omega), maskB_bit _ _ _ (by omega)]
  congr 1
  rw [decide_eq_decide]; omega
theorem frontTo_eq {a b : List UInt8} {n : Nat} (hn : n ≤ 128) (hb : b.length = 16) : frontTo a n = b ↔ (∀ i < n, abit a i = abit b i) ∧ ∀ i, n ≤ i → i < 128 → abit b i = false := by
  constructor
  · rintro rfl
    refine ⟨fun i hi => ?_, fun i h1 h2 => ?_⟩
    · rw [frontTo_bit _ _ hn]; simp [hi]
    · rw [frontTo_bit _ _ hn]
      have : ¬ i < n := by omega
      simp [this]
  · rintro ⟨h1, h2⟩
    refine addr_ext (frontTo_length _ _) hb fun i hi => ?_
    rw [frontTo_bit _ _ hn]
    by_cases h : i < n
    · simp [h, h1 i h]
    · rw [h2 i (by omega) (by omega)]; simp [h]

/-! ### Prefixes -/
def mostF (v : Int) : Option Nat := if v = 4 then some 32 else if v = 6 then some 128 else none
/-- What is wrong with a prefix: the sort of fault, 0 where there is none. -/
def fitsF (v n : Int) : Int := match mostF v with
  | none => 4
  | some m => if n < 0 ∨ (m : Int) < n then 1 else 0
def checkF (v : Int) (a : List UInt8) (n : Int) : Int := if fitsF v n ≠ 0 then fitsF v n else if frontTo a n.toNat = a then 0 else 5
end Go.Proofs

/-
  Own work. The walks of prefix: most, fits, mask, Check, right, Has.
-/
namespace Go.Proofs
open Go Go.Ytecmopdncgekhaa
set_option linter.unusedVariables false
set_option linter.unusedSimpArgs false
set_option maxRecDepth 10000

/-! ### weighbridge/prefix.most, params 1 -/
def c31r0 : List AStm := [.op (some 2) none (.mv (.c (.int .i64 0))),
    .op (some 3) none (.mv (.c (.bool false)))]
def c31r1 : List AStm := [.op (some 4) none (.mv (.t 0))]
def c31r2 : List AStm := [.op (some 6) none (.bin .eql (.t 4) (.c (.int .i64 4))),
    .op (some 5) none (.mv (.t 6))]
def c31r3 : List AStm := [.op (some 2) none (.mv (.c (.int .i64 32))),
    .op (some 3) none (.mv (.c (.bool true)))]
def c31r4 : List AStm := [.op (some 8) none (.bin .eql (.t 4) (.c (.int .i64 6))),
    .op (some 7) none (.mv (.t 8))]
def c31r5 : List AStm := [.op (some 2) none (.mv (.c (.int .i64 128))),
    .op (some 3) none (.mv (.c (.bool true)))]
def c31r6 : List AStm := [.op (some 2) none (.mv (.c (.int .i64 0))),
    .op (some 3) none (.mv (.c (.bool false)))]
def c31 : CF := ⟨.seq (.reg c31r0) (.seq (.seq (.reg c31r1) (.block 0 (.seq (.reg c31r2) (.cond (.t 5) (.seq (.reg c31r3) (.ret)) (.seq (.reg c31r4) (.cond (.t 7) (.seq (.reg c31r5) (.ret)) (.skip))))))) (.seq (.reg c31r6) (.ret))), [.tmp 2, .tmp 3], 9⟩
theorem cf31 : cfun Try.prog 31 = some c31 := by kernel_rfl

/-! ### weighbridge/prefix.fits, params 2 -/
def c34r0 : List AStm := [.op (some 4) none (.mv (.c (.int .i64 0)))]
def c34r1 : List AStm := [.op (some 8) none (.mv (.t 0)),
    .call (some 9) none (.c (.fn (.func 31) [] [])) [(.t 8)],
    .op (some 7) none (.mv (.t 9)),
    .op (some 10) none (.ext (.t 7) 0),
    .op (some 11) none (.ext (.t 7) 1),
    .op (some 5) none (.mv (.t 10)),
    .op (some 6) none (.mv (.t 11))]
def c34r2 : List AStm := [.op (some 13) none (.mv (.t 6)),
    .op (some 14) none (.un .not (.t 13)),
    .op (some 12) none (.mv (.t 14))]
def c34r3 : List AStm := [.op (some 4) none (.mv (.c (.int .i64 4)))]
def c34r4 : List AStm := [.op (some 16) none (.mv (.t 1)),
    .op (some 17) none (.bin .lss (.t 16) (.c (.int .i64 0))),
    .op (some 18) none (.mv (.t 17)),
    .op (some 19) (some (18, false)) (.mv (.t 1)),
    .op (some 20) (some (18, false)) (.mv (.t 5)),
    .op (some 21) (some (18, false)) (.bin .gtr (.t 19) (.t 20)),
    .op (some 22) none (.pick (.t 18) (.c (.bool true)) (.t 21)),
    .op (some 15) none (.mv (.t 22))]
def c34r5 : List AStm := [.op (some 4) none (.mv (.c (.int .i64 1)))]
def c34r6 : List AStm := [.op (some 4) none (.mv (.c (.int .i64 0)))]
def c34 : CF := ⟨.seq (.reg c34r0) (.seq (.reg c34r1) (.seq (.block 0 (.seq (.reg c34r2) (.cond (.t 12) (.seq (.reg c34r3) (.ret)) (.seq (.reg c34r4) (.cond (.t 15) (.seq (.reg c34r5) (.ret)) (.skip)))))) (.seq (.reg c34r6) (.ret)))), [.tmp 4], 23⟩
theorem cf34 : cfun Try.prog 34 = some c34 := by kernel_rfl

/-! ### weighbridge/prefix.mask, params 2 -/
def c33r0 : List AStm := [.op (some 2) none (.box (.t 0)),
    .op (some 4) none (.alloc (List.replicate 16 (.int .u8 0)))]
def c33r1 : List AStm := [.op (some 7) none (.mv (.c (.int .i64 0)))]
def c33r2 : List AStm := [.op (some 8) none (.bin .lss (.t 7) (.c (.int .i64 16)))]
def c33r3 : List AStm := [.op (some 9) none (.mv (.t 7)),
    .op (some 5) none (.mv (.t 9))]
def c33r4 : List AStm := [.op (some 10) none (.mv (.t 1)),
    .op (some 11) none (.mv (.t 5)),
    .op (some 12) none (.bin .mul (.c (.int .i64 8)) (.t 11)),
    .op (some 13) none (.bin .sub (.t 10) (.t 12)),
    .op (some 6) none (.mv (.t 13))]
def c33r5 : List AStm := [.op (some 15) none (.mv (.t 6)),
    .op (some 16) none (.bin .leq (.t 15) (.c (.int .i64 0))),
    .op (some 14) none (.mv (.t 16))]
def c33r6 : List AStm := [.op (some 17) none (.mv (.t 5)),
    .op (some 18) none (.ixa 16 1 (.t 2) (.t 17)),
    .op none none (.store 1 (.t 18) (.c (.int .u8 0)))]
def c33r7 : List AStm := [.op (some 20) none (.mv (.t 6)),
    .op (some 21) none (.bin .lss (.t 20) (.c (.int .i64 8))),
    .op (some 19) none (.mv (.t 21))]
def c33r8 : List AStm := [.op (some 22) none (.mv (.t 5)),
    .op (some 23) none (.ixa 16 1 (.t 2) (.t 22)),
    .op (some 24) none (.load none (.t 23)),
    .op (some 25) none (.mv (.t 6)),
    .op (some 26) none (.bin .sub (.c (.int .i64 8)) (.t 25)),
    .op (some 27) none (.conv .u64 (.t 26)),
    .op (some 28) none (.bin .shl (.c (.int .u8 255)) (.t 27)),
    .op (some 29) none (.bin .and (.t 24) (.t 28)),
    .op (some 30) none (.ixa 16 1 (.t 2) (.t 22)),
    .op none none (.store 1 (.t 30) (.t 29))]
def c33r9 : List AStm := [.op (some 31) none (.bin .add (.t 7) (.c (.int .i64 1))),
    .op (some 7) none (.mv (.t 31))]
def c33l10 : AC := .seq (.reg c33r2) (.seq (.cond (.t 8) (.skip) (.exit 0)) (.seq (.block 1 (.seq (.reg c33r3) (.seq (.reg c33r4) (.block 2 (.seq (.reg c33r5) (.cond (.t 14) (.reg c33r6) (.seq (.reg c33r7) (.cond (.t 19) (.reg c33r8) (.skip))))))))) (.reg c33r9)))
def c33r11 : List AStm := [.op (some 32) none (.load (some 16) (.t 2)),
    .op none none (.store 16 (.t 4) (.t 32))]
def c33 : CF := ⟨.seq (.reg c33r0) (.seq (.seq (.reg c33r1) (.block 0 (.loop c33l10))) (.seq (.reg c33r11) (.ret))), [.cell 4 (some 16)], 33⟩
theorem cf33 : cfun Try.prog 33 = some c33 := by kernel_rfl

/-! ### weighbridge/prefix.Check, params 1 -/
def c21r0 : List AStm := [.op (some 1) none (.box (.t 0)),
    .op (some 2) none (.mv (.c (.int .i64 0)))]
def c21r1 : List AStm := [.op (some 4) none (.faddr 0 (.t 1)),
    .op (some 5) none (.load none (.t 4)),
    .op (some 6) none (.faddr 17 (.t 1)),
    .op (some 7) none (.load none (.t 6)),
    .call (some 8) none (.c (.fn (.func 34) [] [])) [(.t 5), (.t 7)],
    .op (some 3) none (.mv (.t 8))]
def c21r2 : List AStm := [.op (some 9) none (.mv (.t 3)),
    .op (some 10) none (.bin .neq (.t 9) (.c (.int .i64 0)))]
def c21r3 : List AStm := [.op (some 11) none (.mv (.t 3)),
    .op (some 2) none (.mv (.t 11))]
def c21r4 : List AStm := []
def c21r5 : List AStm := [.op (some 12) none (.faddr 1 (.t 1)),
    .op (some 13) none (.load (some 16) (.t 12)),
    .op (some 14) none (.faddr 17 (.t 1)),
    .op (some 15) none (.load none (.t 14)),
    .op (some 17) none (.faddr 1 (.t 1)),
    .op (some 18) none (.load (some 16) (.t 17)),
    .callG (some 16) none (.c (.fn (.func 33) [] [])) [(.t 13), (.t 15)],
    .op (some 19) none (.eqa true (List.replicate 16 .ki) (.t 16) (.t 18))]
def c21r6 : List AStm := [.op (some 2) none (.mv (.c (.int .i64 5)))]
def c21r7 : List AStm := [.op (some 2) none (.mv (.c (.int .i64 0)))]
def c21 : CF := ⟨.seq (.reg c21r0) (.seq (.seq (.reg c21r1) (.seq (.reg c21r2) (.cond (.t 10) (.seq (.reg c21r3) (.ret)) (.skip)))) (.seq (.seq (.dreg c21r4 c21r5) (.cond (.t 19) (.seq (.reg c21r6) (.ret)) (.skip))) (.seq (.reg c21r7) (.ret)))), [.tmp 2], 20⟩
theorem cf21 : cfun Try.prog 21 = some c21 := by kernel_rfl

/-! ### weighbridge/prefix.right, params 1 -/
def c30r0 : List AStm := [.op (some 1) none (.box (.t 0)),
    .op (some 2) none (.mv (.c (.bool false)))]
def c30r1 : List AStm := [.op (some 3) none (.load (some 18) (.t 1)),
    .call (some 4) none (.c (.fn (.func 21) [] [])) [(.t 3)],
    .op (some 5) none (.bin .eql (.t 4) (.c (.int .i64 0))),
    .op (some 2) none (.mv (.t 5))]
def c30 : CF := ⟨.seq (.reg c30r0) (.seq (.reg c30r1) (.ret)), [.tmp 2], 6⟩
theorem cf30 : cfun Try.prog 30 = some c30 := by kernel_rfl

/-! ### weighbridge/prefix.Has, params 3 -/
def c20r0 : List AStm := [.op (some 3) none (.box (.t 0)),
    .op (some 5) none (.box (.t 2)),
    .op (some 6) none (.mv (.c (.bool false)))]
def c20r1 : List AStm := []
def c20r2 : List AStm := [.op (some 7) none (.load (some 18) (.t 3)),
    .callG (some 8) none (.c (.fn (.func 30) [] [])) [(.t 7)],
    .op (some 9) none (.mv (.t 8)),
    .op (some 10) (some (9, true)) (.mv (.t 1)),
    .op (some 11) (some (9, true)) (.faddr 0 (.t 3)),
    .op (some 12) (some (9, true)) (.load none (.t 11)),
    .op (some 13) (some (9, true)) (.bin .eql (.t 10) (.t 12)),
    .op (some 14) none (.pick (.t 9) (.t 13) (.c (.bool false))),
    .op (some 15) none (.mv (.t 14)),
    .op (some 16) (some (15, true)) (.load (some 16) (.t 5)),
    .op (some 17) (some (15, true)) (.faddr 17 (.t 3)),
    .op (some 18) (some (15, true)) (.load none (.t 17)),
    .op (some 20) (some (15, true)) (.faddr 1 (.t 3)),
    .op (some 21) (some (15, true)) (.load (some 16) (.t 20)),
    .callG (some 19) (some (15, true)) (.c (.fn (.func 33) [] [])) [(.t 16), (.t 18)],
    .op (some 22) (some (15, true)) (.eqa false (List.replicate 16 .ki) (.t 19) (.t 21)),
    .op (some 23) none (.pick (.t 15) (.t 22) (.c (.bool false))),
    .op (some 6) none (.mv (.t 23))]
def c20 : CF := ⟨.seq (.reg c20r0) (.seq (.dreg c20r1 c20r2) (.ret)), [.tmp 6], 24⟩
theorem cf20 : cfun Try.prog 20 = some c20 := by kernel_rfl



def prefD (v : Int) (a : List UInt8) (n : Int) : D := .agg (.int .i64 v :: (ofBytes a ++ [.int .i64 n]))
theorem pr_take {a : List UInt8} (ha : a.length = 16) (x : List D) : (ofBytes a ++ x).take 16 = ofBytes a := by
  have : (ofBytes a).length = 16 := by rw [ofBytes_length, ha]
  rw [List.take_append_of_le_length (by omega), List.take_of_length_le (by omega)]
theorem pr_drop {a : List UInt8} (ha : a.length = 16) (x : List D) : (ofBytes a ++ x).drop 16 = x := by
  have : (ofBytes a).length = 16 := by rw [ofBytes_length, ha]
  rw [List.drop_append_of_le_length (by omega), List.drop_eq_nil_of_le (by omega)]; rfl
theorem under_bytes (k : Nat) : ∀ l : List UInt8, underL k (ofBytes l) = true
  | [] => rfl
  | b :: l => by
    have := under_bytes k l
    simp only [ofBytes] at this ⊢
    simp [underL, underD, this]
theorem under_app (k : Nat) : ∀ a b : List D, underL k (a ++ b) = (underL k a && underL k b)
  | [], b => by simp [underL]
  | x :: a, b => by
    have := under_app k a b
    simp only [List.cons_append, underL, this, Bool.and_assoc]
theorem pr_one (a : List UInt8) (n : Int) : (ofBytes a ++ [D.int .i64 n]).all D.one = true := by
  rw [List.all_append, ofBytes_one]; rfl
theorem pr_len {a : List UInt8} (ha : a.length = 16) (x : D) : (ofBytes a ++ [x]).length = 17 := by
  rw [List.length_append, ofBytes_length, ha]; rfl
theorem ofBytes_put (l : List UInt8) (k : Nat) (b : UInt8) : ofBytes (l.set k b) = (ofBytes l).set k (.int .u8 (b.toNat : Int)) := by
  simp [ofBytes, List.map_set]

theorem wrap8 (x : Nat) : IntKind.u8.wrap (x : Int) = ((x % 256 : Nat) : Int) := by
  simp [IntKind.wrap, IntKind.bits, IntKind.signed]
def mostN (v : Int) : Int := match mostF v with | some m => (m : Int) | none => 0
theorem pmost_fc (h : Heap) (v : Int) : FC Try.prog 31 [.int .i64 v] h fun d h' => d = .tup [.int .i64 (mostN v), .bool (mostF v).isSome] ∧ h' = h := by
  refine FC.goes cf31 ?_; simp only [c31]; simp only [List.length_cons, List.length_nil, Nat.reduceAdd, Nat.reduceSub, List.replicate_succ, List.replicate_zero, List.cons_append, List.nil_append]
  by_cases h4 : v = 4
  · subst h4
    simp (disch := first | omega | (simp only [List.length_append, List.length_cons, List.length_nil]; omega)) only [c31r0, c31r1, c31r2, c31r3, c31r4, c31r5, c31r6, go_sem, ↓reduceIte, reduceCtorEq, Nat.reduceAdd, Nat.reduceSub, Nat.reducePow, Nat.reduceMul, Nat.reduceEqDiff, Nat.reduceLT, Nat.reduceLeDiff, Int.reduceToNat, Int.reduceLT, Int.reduceLE, Int.reduceEq, Int.reduceNeg, Int.reduceAdd, Int.reduceSub, Int.reduceMul]
    exact FinOk.all ⟨rfl, rfl⟩
  · by_cases h6 : v = 6
    · subst h6
      simp (disch := first | omega | (simp only [List.length_append, List.length_cons, List.length_nil]; omega)) only [c31r0, c31r1, c31r2, c31r3, c31r4, c31r5, c31r6, go_sem, ↓reduceIte, reduceCtorEq, Nat.reduceAdd, Nat.reduceSub, Nat.reducePow, Nat.reduceMul, Nat.reduceEqDiff, Nat.reduceLT, Nat.reduceLeDiff, Int.reduceToNat, Int.reduceLT, Int.reduceLE, Int.reduceEq, Int.reduceNeg, Int.reduceAdd, Int.reduceSub, Int.reduceMul]
      exact FinOk.all ⟨rfl, rfl⟩
    · have e1 : mostF v = none := by simp [mostF, h4, h6]
      have e2 : mostN v = 0 := by rw [mostN, e1]
      rw [e1, e2]
      simp (disch := first | omega | (simp only [List.length_append, List.length_cons, List.length_nil]; omega)) only [c31r0, c31r1, c31r2, c31r3, c31r4, c31r5, c31r6, h4, h6, go_sem, ↓reduceIte, reduceCtorEq, Nat.reduceAdd, Nat.reduceSub, Nat.reducePow, Nat.reduceMul, Nat.reduceEqDiff, Nat.reduceLT, Nat.reduceLeDiff, Int.reduceToNat, Int.reduceLT, Int.reduceLE, Int.reduceEq, Int.reduceNeg, Int.reduceAdd, Int.reduceSub, Int.reduceMul]
      exact FinOk.all ⟨rfl, rfl⟩
theorem mostF_le {v : Int} {m : Nat} (h : mostF v = some m) : m ≤ 128 := by
  unfold mostF at h
  split at h
  · injection h with h; omega
  · split at h
    · injection h with h; omega
    · cases h
theorem fits_fc (h : Heap) (v n : Int) : FC Try.prog 34 [.int .i64 v, .int .i64 n] h fun d h' => d = .int .i64 (fitsF v n) ∧ h' = h := by
  refine FC.goes cf34 ?_; simp only [c34]; simp only [List.length_cons, List.length_nil, Nat.reduceAdd, Nat.reduceSub, List.replicate_succ, List.replicate_zero, List.cons_append, List.nil_append]
  simp (disch := first | omega | (simp only [List.length_append, List.length_cons, List.length_nil]; omega)) only [c34r0, c34r1, c34r2, c34r3, c34r4, c34r5, c34r6, go_sem, ↓reduceIte, reduceCtorEq, Nat.reduceAdd, Nat.reduceSub, Nat.reducePow, Nat.reduceMul, Nat.reduceEqDiff, Nat.reduceLT, Nat.reduceLeDiff, Int.reduceToNat, Int.reduceLT, Int.reduceLE, Int.reduceEq, Int.reduceNeg, Int.reduceAdd, Int.reduceSub, Int.reduceMul]
  refine gfc_of (pmost_fc _ v) ?_
  rintro d h' ⟨rfl, e⟩
  rw [e]
  cases hm : mostF v with
  | none =>
    have hf : fitsF v n = 4 := by simp [fitsF, hm]
    rw [hf]
    simp (disch := first | omega | (simp only [List.length_append, List.length_cons, List.length_nil]; omega)) only [Option.isSome_none, go_sem, ↓reduceIte, reduceCtorEq, Nat.reduceAdd, Nat.reduceSub, Nat.reducePow, Nat.reduceMul, Nat.reduceEqDiff, Nat.reduceLT, Nat.reduceLeDiff, Int.reduceToNat, Int.reduceLT, Int.reduceLE, Int.reduceEq, Int.reduceNeg, Int.reduceAdd, Int.reduceSub, Int.reduceMul]
    exact FinOk.all ⟨rfl, rfl⟩
  | some m =>
    have e1 : mostN v = (m : Int) := by rw [mostN, hm]
    rw [e1]
    by_cases h0 : n < 0
    · have hf : fitsF v n = 1 := by simp [fitsF, hm, h0]
      rw [hf]
      simp (disch := first | omega | (simp only [List.length_append, List.length_cons, List.length_nil]; omega)) only [Option.isSome_some, h0, go_sem, ↓reduceIte, reduceCtorEq, Nat.reduceAdd, Nat.reduceSub, Nat.reducePow, Nat.reduceMul, Nat.reduceEqDiff, Nat.reduceLT, Nat.reduceLeDiff, Int.reduceToNat, Int.reduceLT, Int.reduceLE, Int.reduceEq, Int.reduceNeg, Int.reduceAdd, Int.reduceSub, Int.reduceMul]
      exact FinOk.all ⟨rfl, rfl⟩
    · by_cases h1 : (m : Int) < n
      · have hf : fitsF v n = 1 := by simp [fitsF, hm, h1]
        rw [hf]
        simp (disch := first | omega | (simp only [List.length_append, List.length_cons, List.length_nil]; omega)) only [Option.isSome_some, h0, h1, go_sem, ↓reduceIte, reduceCtorEq, Nat.reduceAdd, Nat.reduceSub, Nat.reducePow, Nat.reduceMul, Nat.reduceEqDiff, Nat.reduceLT, Nat.reduceLeDiff, Int.reduceToNat, Int.reduceLT, Int.reduceLE, Int.reduceEq, Int.reduceNeg, Int.reduceAdd, Int.reduceSub, Int.reduceMul]
        exact FinOk.all ⟨rfl, rfl⟩
      · have hf : fitsF v n = 0 := by simp [fitsF, hm, h0, h1]
        rw [hf]
        simp (disch := first | omega | (simp only [List.length_append, List.length_cons, List.length_nil]; omega)) only [Option.isSome_some, h0, h1, go_sem, ↓reduceIte, reduceCtorEq, Nat.reduceAdd, Nat.reduceSub, Nat.reducePow, Nat.reduceMul, Nat.reduceEqDiff, Nat.reduceLT, Nat.reduceLeDiff, Int.reduceToNat, Int.reduceLT, Int.reduceLE, Int.reduceEq, Int.reduceNeg, Int.reduceAdd, Int.reduceSub, Int.reduceMul]
        exact FinOk.all ⟨rfl, rfl⟩
theorem mask_fc (h : Heap) (a : List UInt8) (ha : a.length = 16) (n : Nat) (hn : n ≤ 128) : FC Try.prog 33 [.agg (ofBytes a), .int .i64 (n : Int)] h fun d h' => d = .agg (ofBytes (frontTo a n)) ∧ h' = h := by
  refine FC.goes cf33 ?_; simp only [c33]; simp only [List.length_cons, List.length_nil, Nat.reduceAdd, Nat.reduceSub, List.replicate_succ, List.replicate_zero, List.cons_append, List.nil_append]
  simp (disch := first | omega | (simp only [List.length_append, List.length_cons, List.length_nil]; omega)) only [c33r0, c33r1, c33r2, c33r3, c33r4, c33r5, c33r6, c33r7, c33r8, c33r9, c33l10, c33r11, go_sem, ↓reduceIte, reduceCtorEq, Nat.reduceAdd, Nat.reduceSub, Nat.reducePow, Nat.reduceMul, Nat.reduceEqDiff, Nat.reduceLT, Nat.reduceLeDiff, Int.reduceToNat, Int.reduceLT, Int.reduceLE, Int.reduceEq, Int.reduceNeg, Int.reduceAdd, Int.reduceSub, Int.reduceMul]
  refine loop_to 16 (fun k st => ∃ (j : Nat → D), st = ⟨(j 0 :: .int .i64 (n : Int) :: .ref h.length 0 :: j 3 :: .ref (h.length + 1) 0 :: j 5 :: j 6 :: .int .i64 (k : Int) :: j 8 :: j 9 :: j 10 :: j 11 :: j 12 :: j 13 :: j 14 :: j 15 :: j 16 :: j 17 :: j 18 :: j 19 :: j 20 :: j 21 :: j 22 :: j 23 :: j 24 :: j 25 :: j 26 :: j 27 :: j 28 :: j 29 :: j 30 :: j 31 :: j 32 :: []), h ++ [.box (ofBytes (maskTo a n k)), .box (List.replicate 16 (.int .u8 0))]⟩) (by rw [maskTo_zero ha]; exact junk rfl) ?_
  rintro k st hk ⟨j, rfl⟩
  have hbl : (ofBytes (maskTo a n k)).length = 16 := by rw [ofBytes_length, maskTo_length]
  by_cases hk16 : k < 16
  · have hk' : (k : Int) < 16 := by omega
    have e1 : IntKind.i64.wrap (8 * (k : Int)) = ((8 * k : Nat) : Int) := by rw [w_i64 (by omega) (by omega)]; omega
    have e2 : IntKind.i64.wrap ((n : Int) - ((8 * k : Nat) : Int)) = (n : Int) - ((8 * k : Nat) : Int) := w_i64 (by omega) (by omega)
    have e5 : IntKind.i64.wrap ((k : Int) + 1) = ((k + 1 : Nat) : Int) := by rw [w_i64 (by omega) (by omega)]; omega
    have hset := maskTo_set a n k hk16
    by_cases h0 : (n : Int) - ((8 * k : Nat) : Int) ≤ 0
    · have hb : maskB (a.getD k 0) (n - 8 * k) = 0 := by
        have : n - 8 * k = 0 := by omega
        simp [maskB, this]
      simp (disch := first | omega | (simp only [List.length_append, List.length_cons, List.length_nil]; omega)) only [c33r0, c33r1, c33r2, c33r3, c33r4, c33r5, c33r6, c33r7, c33r8, c33r9, c33l10, c33r11, hk', e1, e2, h0, e5, hbl, go_sem, ↓reduceIte, reduceCtorEq, Nat.reduceAdd, Nat.reduceSub, Nat.reducePow, Nat.reduceMul, Nat.reduceEqDiff, Nat.reduceLT, Nat.reduceLeDiff, Int.reduceToNat, Int.reduceLT, Int.reduceLE, Int.reduceEq, Int.reduceNeg, Int.reduceAdd, Int.reduceSub, Int.reduceMul]
      refine ⟨hk16, ?_⟩
      rw [← hset, hb, ofBytes_put]
      exact junk rfl
    · by_cases h8 : (n : Int) - ((8 * k : Nat) : Int) < 8
      · obtain ⟨left, hl⟩ : ∃ left : Nat, n = 8 * k + left := ⟨n - 8 * k, by omega⟩
        have hl2 : n - 8 * k = left := by omega
        have hl3 : (n : Int) - ((8 * k : Nat) : Int) = (left : Int) := by omega
        rw [hl2] at hset
        rw [hl3] at e2 h0 h8
        have e2' : IntKind.i64.wrap ((n : Int) - ((8 * k : Nat) : Int)) = (left : Int) := by rw [hl3]; exact e2
        have e6 : IntKind.i64.wrap (8 - (left : Int)) = ((8 - left : Nat) : Int) := by rw [w_i64 (by omega) (by omega)]; omega
        have e7 : IntKind.u64.wrap ((8 - left : Nat) : Int) = ((8 - left : Nat) : Int) := w_u64 (by omega) (by omega)
        have hg : (List.drop k (ofBytes (maskTo a n k)))[0]? = some (.int .u8 ((a.getD k 0).toNat : Int)) := by
          rw [List.getElem?_drop, Nat.add_zero, ofBytes_get, getB (by rw [maskTo_length]; omega), maskTo_getD _ _ _ _ hk16, if_neg (by omega)]; rfl
        have a1 : arith .shl (.int .u8 255) (.int .u64 ((8 - left : Nat) : Int)) = some (.int .u8 (((255 <<< (8 - left)) % 256 : Nat) : Int)) := by
          have := shl_u8 (x := 255) (k' := .u64) (b := ((8 - left : Nat) : Int)) (by omega) (by omega)
          rw [Int.toNat_natCast, wrap8, ← Nat.shiftLeft_eq] at this
          exact this
        have a2 : arith .and (.int .u8 ((a.getD k 0).toNat : Int)) (.int .u8 (((255 <<< (8 - left)) % 256 : Nat) : Int)) = some (.int .u8 (((a.getD k 0).toNat &&& ((255 <<< (8 - left)) % 256) : Nat) : Int)) := and_u8 (a.getD k 0).toNat_lt (Nat.mod_lt _ (by omega))
        have hb : maskB (a.getD k 0) left = UInt8.ofNat ((a.getD k 0).toNat &&& ((255 <<< (8 - left)) % 256)) := by
          have h1 : ¬ left = 0 := by omega
          have h2 : left < 8 := by omega
          simp [maskB, h1, h2]
        have hbt : (UInt8.ofNat ((a.getD k 0).toNat &&& ((255 <<< (8 - left)) % 256))).toNat = (a.getD k 0).toNat &&& ((255 <<< (8 - left)) % 256) := UInt8.toNat_ofNat_of_lt' (by exact maskB_lt _ _)
        simp (disch := first | omega | (simp only [List.length_append, List.length_cons, List.length_nil]; omega)) only [c33r0, c33r1, c33r2, c33r3, c33r4, c33r5, c33r6, c33r7, c33r8, c33r9, c33l10, c33r11, hk', e1, e2', h0, h8, e5, e6, e7, hbl, hg, a1, a2, go_sem, ↓reduceIte, reduceCtorEq, Nat.reduceAdd, Nat.reduceSub, Nat.reducePow, Nat.reduceMul, Nat.reduceEqDiff, Nat.reduceLT, Nat.reduceLeDiff, Int.reduceToNat, Int.reduceLT, Int.reduceLE, Int.reduceEq, Int.reduceNeg, Int.reduceAdd, Int.reduceSub, Int.reduceMul]
        refine ⟨hk16, ?_⟩
        rw [← hset, hb, ofBytes_put, hbt]
        exact junk rfl
      · have hb : maskB (a.getD k 0) (n - 8 * k) = a.getD k 0 := by
          have h1 : ¬ n - 8 * k = 0 := by omega
          have h2 : ¬ n - 8 * k < 8 := by omega
          unfold maskB
          rw [if_neg h1, if_neg h2]
        have hsame : maskTo a n (k + 1) = maskTo a n k := by
          rw [← hset, hb]
          refine bytes_ext (by simp) fun i hi => ?_
          rw [List.length_set, maskTo_length] at hi
          rw [getD_set8, maskTo_length]
          split
          · rename_i hc
            obtain ⟨rfl, _⟩ := hc
            rw [maskTo_getD _ _ _ _ hi, if_neg (by omega)]
          · rfl
        simp (disch := first | omega | (simp only [List.length_append, List.length_cons, List.length_nil]; omega)) only [c33r0, c33r1, c33r2, c33r3, c33r4, c33r5, c33r6, c33r7, c33r8, c33r9, c33l10, c33r11, hk', e1, e2, h0, h8, e5, go_sem, ↓reduceIte, reduceCtorEq, Nat.reduceAdd, Nat.reduceSub, Nat.reducePow, Nat.reduceMul, Nat.reduceEqDiff, Nat.reduceLT, Nat.reduceLeDiff, Int.reduceToNat, Int.reduceLT, Int.reduceLE, Int.reduceEq, Int.reduceNeg, Int.reduceAdd, Int.reduceSub, Int.reduceMul]
        refine ⟨hk16, ?_⟩
        rw [hsame]
        exact junk rfl
  · have hk' : ¬ (k : Int) < 16 := by omega
    have : k = 16 := by omega
    subst this
    rw [mask_front hn] at hbl ⊢
    have htk : List.take 16 (ofBytes (frontTo a n)) = ofBytes (frontTo a n) := List.take_of_length_le (by omega)
    simp (disch := first | omega | (simp only [List.length_append, List.length_cons, List.length_nil]; omega)) only [c33r0, c33r1, c33r2, c33r3, c33r4, c33r5, c33r6, c33r7, c33r8, c33r9, c33l10, c33r11, hk', hbl, htk, go_sem, ↓reduceIte, reduceCtorEq, Nat.reduceAdd, Nat.reduceSub, Nat.reducePow, Nat.reduceMul, Nat.reduceEqDiff, Nat.reduceLT, Nat.reduceLeDiff, Int.reduceToNat, Int.reduceLT, Int.reduceLE, Int.reduceEq, Int.reduceNeg, Int.reduceAdd, Int.reduceSub, Int.reduceMul]
    exact FinOk.drop (.inl rfl) (by simp [underL, underD, under_bytes]) ⟨rfl, rfl⟩

theorem checkF_le {v n : Int} (h : fitsF v n = 0) : 0 ≤ n ∧ n ≤ 128 := by
  unfold fitsF at h
  split at h
  · cases h
  · rename_i m hm
    have := mostF_le hm
    split at h
    · cases h
    · omega
theorem pcheck_fc (h : Heap) (v n : Int) (a : List UInt8) (ha : a.length = 16) : FC Try.prog 21 [prefD v a n] h fun d h' => d = .int .i64 (checkF v a n) ∧ h' = h := by
  have p1 := pr_take ha [.int .i64 n]
  have p2 := pr_drop ha [.int .i64 n]
  have p3 := pr_len ha (.int .i64 n)
  have p4 := pr_one a n
  refine FC.goes cf21 ?_; simp only [c21]; simp only [List.length_cons, List.length_nil, Nat.reduceAdd, Nat.reduceSub, List.replicate_succ, List.replicate_zero, List.cons_append, List.nil_append]
  simp (disch := first | omega | (simp only [List.length_append, List.length_cons, List.length_nil]; omega)) only [c21r0, c21r1, c21r2, c21r3, c21r4, c21r5, c21r6, c21r7, prefD, p2, p3, p4, go_sem, ↓reduceIte, reduceCtorEq, Nat.reduceAdd, Nat.reduceSub, Nat.reducePow, Nat.reduceMul, Nat.reduceEqDiff, Nat.reduceLT, Nat.reduceLeDiff, Int.reduceToNat, Int.reduceLT, Int.reduceLE, Int.reduceEq, Int.reduceNeg, Int.reduceAdd, Int.reduceSub, Int.reduceMul]
  refine gfc_of (fits_fc _ v n) ?_
  rintro d h' ⟨rfl, e⟩
  rw [e]
  by_cases hf : fitsF v n = 0
  · have hc : checkF v a n = if frontTo a n.toNat = a then 0 else 5 := by simp [checkF, hf]
    obtain ⟨h0, h1⟩ := checkF_le hf
    obtain ⟨k, rfl⟩ := Int.eq_ofNat_of_zero_le h0
    rw [show ((k : Int)).toNat = k from rfl] at hc
    rw [hf, hc]
    simp (disch := first | omega | (simp only [List.length_append, List.length_cons, List.length_nil]; omega)) only [p1, p2, p3, go_sem, ↓reduceIte, reduceCtorEq, Nat.reduceAdd, Nat.reduceSub, Nat.reducePow, Nat.reduceMul, Nat.reduceEqDiff, Nat.reduceLT, Nat.reduceLeDiff, Int.reduceToNat, Int.reduceLT, Int.reduceLE, Int.reduceEq, Int.reduceNeg, Int.reduceAdd, Int.reduceSub, Int.reduceMul]
    refine xfc_of (mask_fc _ a ha k (by omega)) ?_
    rintro d h' ⟨rfl, e⟩
    refine ⟨⟨[], by rw [e, List.append_nil]⟩, ?_⟩
    rw [e]
    have hfl := frontTo_length a k
    by_cases he : frontTo a k = a
    · rw [he]
      simp (disch := first | omega | (simp only [List.length_append, List.length_cons, List.length_nil]; omega)) only [ha, go_sem, ↓reduceIte, reduceCtorEq, Nat.reduceAdd, Nat.reduceSub, Nat.reducePow, Nat.reduceMul, Nat.reduceEqDiff, Nat.reduceLT, Nat.reduceLeDiff, Int.reduceToNat, Int.reduceLT, Int.reduceLE, Int.reduceEq, Int.reduceNeg, Int.reduceAdd, Int.reduceSub, Int.reduceMul]
      exact FinOk.drop (.inl rfl) (by simp [underL, underD]) ⟨rfl, rfl⟩
    · simp (disch := first | omega | (simp only [List.length_append, List.length_cons, List.length_nil]; omega)) only [he, hfl, ha, go_sem, ↓reduceIte, reduceCtorEq, Nat.reduceAdd, Nat.reduceSub, Nat.reducePow, Nat.reduceMul, Nat.reduceEqDiff, Nat.reduceLT, Nat.reduceLeDiff, Int.reduceToNat, Int.reduceLT, Int.reduceLE, Int.reduceEq, Int.reduceNeg, Int.reduceAdd, Int.reduceSub, Int.reduceMul]
      exact FinOk.drop (.inl rfl) (by simp [underL, underD]) ⟨rfl, rfl⟩
  · have hc : checkF v a n = fitsF v n := by simp [checkF, hf]
    rw [hc]
    simp (disch := first | omega | (simp only [List.length_append, List.length_cons, List.length_nil]; omega)) only [hf, go_sem, ↓reduceIte, reduceCtorEq, Nat.reduceAdd, Nat.reduceSub, Nat.reducePow, Nat.reduceMul, Nat.reduceEqDiff, Nat.reduceLT, Nat.reduceLeDiff, Int.reduceToNat, Int.reduceLT, Int.reduceLE, Int.reduceEq, Int.reduceNeg, Int.reduceAdd, Int.reduceSub, Int.reduceMul]
    exact FinOk.drop (.inl rfl) (by simp [underL, underD]) ⟨rfl, rfl⟩

theorem pr_all {a : List UInt8} (ha : a.length = 16) (v n : Int) : (D.int .i64 v :: (ofBytes a ++ [.int .i64 n])).take 18 = D.int .i64 v :: (ofBytes a ++ [.int .i64 n]) := by
  have := pr_len ha (.int .i64 n)
  exact List.take_of_length_le (by rw [List.length_cons]; omega)
theorem right_fc (h : Heap) (v n : Int) (a : List UInt8) (ha : a.length = 16) : FC Try.prog 30 [prefD v a n] h fun d h' => d = .bool (decide (checkF v a n = 0)) ∧ h' = h := by
  have p2 := pr_drop ha [.int .i64 n]
  have p3 := pr_len ha (.int .i64 n)
  have p4 := pr_one a n
  have p5 := pr_all ha v n
  refine FC.goes cf30 ?_; simp only [c30]; simp only [List.length_cons, List.length_nil, Nat.reduceAdd, Nat.reduceSub, List.replicate_succ, List.replicate_zero, List.cons_append, List.nil_append]
  simp (disch := first | omega | (simp only [List.length_append, List.length_cons, List.length_nil]; omega)) only [c30r0, c30r1, prefD, p2, p3, p4, p5, go_sem, ↓reduceIte, reduceCtorEq, Nat.reduceAdd, Nat.reduceSub, Nat.reducePow, Nat.reduceMul, Nat.reduceEqDiff, Nat.reduceLT, Nat.reduceLeDiff, Int.reduceToNat, Int.reduceLT, Int.reduceLE, Int.reduceEq, Int.reduceNeg, Int.reduceAdd, Int.reduceSub, Int.reduceMul]
  have e := pcheck_fc
  unfold prefD at e
  have p6 : List.take 17 (ofBytes a ++ [D.int .i64 n]) = ofBytes a ++ [D.int .i64 n] := List.take_of_length_le (by omega)
  try rw [p6]
  refine gfc_of (e _ v n a ha) ?_
  rintro d h' ⟨rfl, e⟩
  rw [e]
  simp (disch := first | omega | (simp only [List.length_append, List.length_cons, List.length_nil]; omega)) only [go_sem, ↓reduceIte, reduceCtorEq, Nat.reduceAdd, Nat.reduceSub, Nat.reducePow, Nat.reduceMul, Nat.reduceEqDiff, Nat.reduceLT, Nat.reduceLeDiff, Int.reduceToNat, Int.reduceLT, Int.reduceLE, Int.reduceEq, Int.reduceNeg, Int.reduceAdd, Int.reduceSub, Int.reduceMul]
  exact FinOk.drop (.inl rfl) (by simp [underL, underD]) ⟨rfl, rfl⟩

/-- Has an address a prefix? -/
def hasF (p : Int) (a : List UInt8) (n v : Int) (b : List UInt8) : Bool := decide (checkF p a n = 0) && (decide (v = p) && decide (frontTo b n.toNat = a))
theorem phas_fc (h : Heap) (p n v : Int) (a b : List UInt8) (ha : a.length = 16) (hb : b.length = 16) : FC Try.prog 20 [prefD p a n, .int .i64 v, .agg (ofBytes b)] h fun d h' => d = .bool (hasF p a n v b) ∧ h' = h := by
  have p1 := pr_take ha [.int .i64 n]
  have p2 := pr_drop ha [.int .i64 n]
  have p3 := pr_len ha (.int .i64 n)
  have p4 := pr_one a n
  have p6 : List.take 17 (ofBytes a ++ [D.int .i64 n]) = ofBytes a ++ [D.int .i64 n] := List.take_of_length_le (by omega)
  have hbl : (ofBytes b).length = 16 := by rw [ofBytes_length, hb]
  have p7 : List.take 16 (ofBytes b) = ofBytes b := List.take_of_length_le (by omega)
  have er := right_fc
  unfold prefD at er
  refine FC.goes cf20 ?_; simp only [c20]; simp only [List.length_cons, List.length_nil, Nat.reduceAdd, Nat.reduceSub, List.replicate_succ, List.replicate_zero, List.cons_append, List.nil_append]
  simp (disch := first | omega | (simp only [List.length_append, List.length_cons, List.length_nil]; omega)) only [c20r0, c20r1, c20r2, prefD, p2, p3, p4, p6, go_sem, ↓reduceIte, reduceCtorEq, Nat.reduceAdd, Nat.reduceSub, Nat.reducePow, Nat.reduceMul, Nat.reduceEqDiff, Nat.reduceLT, Nat.reduceLeDiff, Int.reduceToNat, Int.reduceLT, Int.reduceLE, Int.reduceEq, Int.reduceNeg, Int.reduceAdd, Int.reduceSub, Int.reduceMul]
  refine xfc_of (er _ p n a ha) ?_
  rintro d h' ⟨rfl, e⟩
  refine ⟨⟨[], by rw [e, List.append_nil]⟩, ?_⟩
  rw [e]
  by_cases hc : checkF p a n = 0
  · have hf : fitsF p n = 0 := by
      unfold checkF at hc
      split at hc
      · rename_i h1; exact absurd hc h1
      · rename_i h1; simpa using h1
    obtain ⟨h0, h1⟩ := checkF_le hf
    obtain ⟨k, rfl⟩ := Int.eq_ofNat_of_zero_le h0
    by_cases hv : v = p
    · subst hv
      simp (disch := first | omega | (simp only [List.length_append, List.length_cons, List.length_nil]; omega)) only [hc, p1, p2, p3, p7, hbl, go_sem, ↓reduceIte, reduceCtorEq, Nat.reduceAdd, Nat.reduceSub, Nat.reducePow, Nat.reduceMul, Nat.reduceEqDiff, Nat.reduceLT, Nat.reduceLeDiff, Int.reduceToNat, Int.reduceLT, Int.reduceLE, Int.reduceEq, Int.reduceNeg, Int.reduceAdd, Int.reduceSub, Int.reduceMul]
      refine xfc_of (mask_fc _ b hb k (by omega)) ?_
      rintro d h' ⟨rfl, e⟩
      refine ⟨⟨[], by rw [e, List.append_nil]⟩, ?_⟩
      rw [e]
      have hfl := frontTo_length b k
      have hh : hasF v a (k : Int) v b = decide (frontTo b k = a) := by simp [hasF, hc]
      rw [hh]
      simp (disch := first | omega | (simp only [List.length_append, List.length_cons, List.length_nil]; omega)) only [hfl, ha, go_sem, ↓reduceIte, reduceCtorEq, Nat.reduceAdd, Nat.reduceSub, Nat.reducePow, Nat.reduceMul, Nat.reduceEqDiff, Nat.reduceLT, Nat.reduceLeDiff, Int.reduceToNat, Int.reduceLT, Int.reduceLE, Int.reduceEq, Int.reduceNeg, Int.reduceAdd, Int.reduceSub, Int.reduceMul]
      exact FinOk.drop (.inl rfl) (by simp [underL, underD]) ⟨rfl, rfl⟩
    · have hh : hasF p a (k : Int) v b = false := by simp [hasF, hv]
      rw [hh]
      simp (disch := first | omega | (simp only [List.length_append, List.length_cons, List.length_nil]; omega)) only [hc, p2, hv, go_sem, ↓reduceIte, reduceCtorEq, Nat.reduceAdd, Nat.reduceSub, Nat.reducePow, Nat.reduceMul, Nat.reduceEqDiff, Nat.reduceLT, Nat.reduceLeDiff, Int.reduceToNat, Int.reduceLT, Int.reduceLE, Int.reduceEq, Int.reduceNeg, Int.reduceAdd, Int.reduceSub, Int.reduceMul]
      exact FinOk.drop (.inl rfl) (by simp [underL, underD]) ⟨rfl, rfl⟩
  · have hh : hasF p a n v b = false := by simp [hasF, hc]
    rw [hh]
    simp (disch := first | omega | (simp only [List.length_append, List.length_cons, List.length_nil]; omega)) only [hc, go_sem, ↓reduceIte, reduceCtorEq, Nat.reduceAdd, Nat.reduceSub, Nat.reducePow, Nat.reduceMul, Nat.reduceEqDiff, Nat.reduceLT, Nat.reduceLeDiff, Int.reduceToNat, Int.reduceLT, Int.reduceLE, Int.reduceEq, Int.reduceNeg, Int.reduceAdd, Int.reduceSub, Int.reduceMul]
    exact FinOk.drop (.inl rfl) (by simp [underL, underD]) ⟨rfl, rfl⟩
end Go.Proofs

/-
  Own work. The walks of the document's prefixes: Most, Bit, set, front, Check, Has, Make.
-/
namespace Go.Proofs
open Go Go.Ytecmopdncgekhaa
set_option linter.unusedVariables false
set_option linter.unusedSimpArgs false
set_option maxRecDepth 10000

/-! ### weighbridge/weighbridgeref07.Most, params 1 -/
def c38r0 : List AStm := [.op (some 2) none (.mv (.c (.int .i64 0)))]
def c38r1 : List AStm := [.op (some 3) none (.mv (.t 0)),
    .op (some 4) none (.bin .eql (.t 3) (.c (.int .i64 4)))]
def c38r2 : List AStm := [.op (some 2) none (.mv (.c (.int .i64 32)))]
def c38r3 : List AStm := [.op (some 5) none (.mv (.t 0)),
    .op (some 6) none (.bin .eql (.t 5) (.c (.int .i64 6)))]
def c38r4 : List AStm := [.op (some 2) none (.mv (.c (.int .i64 128)))]
def c38r5 : List AStm := [.op (some 2) none (.mv (.c (.int .i64 (-1))))]
def c38 : CF := ⟨.seq (.reg c38r0) (.seq (.seq (.reg c38r1) (.cond (.t 4) (.seq (.reg c38r2) (.ret)) (.skip))) (.seq (.seq (.reg c38r3) (.cond (.t 6) (.seq (.reg c38r4) (.ret)) (.skip))) (.seq (.reg c38r5) (.ret)))), [.tmp 2], 7⟩
theorem cf38 : cfun Try.prog 38 = some c38 := by kernel_rfl

/-! ### weighbridge/weighbridgeref07.Bit, params 2 -/
def c44r0 : List AStm := [.op (some 2) none (.box (.t 0)),
    .op (some 4) none (.mv (.c (.int .i64 0)))]
def c44r1 : List AStm := [.op (some 7) none (.mv (.t 1)),
    .op (some 8) none (.bin .quo (.t 7) (.c (.int .i64 8))),
    .op (some 9) none (.ixa 16 1 (.t 2) (.t 8)),
    .op (some 10) none (.load none (.t 9)),
    .op (some 11) none (.conv .i64 (.t 10)),
    .op (some 5) none (.mv (.t 11))]
def c44r2 : List AStm := [.op (some 12) none (.mv (.t 1)),
    .op (some 13) none (.bin .rem (.t 12) (.c (.int .i64 8))),
    .op (some 14) none (.bin .sub (.c (.int .i64 7)) (.t 13)),
    .op (some 6) none (.mv (.t 14))]
def c44r3 : List AStm := [.op (some 15) none (.mv (.t 6)),
    .op (some 16) none (.bin .gtr (.t 15) (.c (.int .i64 0)))]
def c44r4 : List AStm := [.op (some 19) none (.mv (.t 5)),
    .op (some 20) none (.bin .quo (.t 19) (.c (.int .i64 2))),
    .op (some 5) none (.mv (.t 20))]
def c44r5 : List AStm := [.op (some 17) none (.mv (.t 6)),
    .op (some 18) none (.bin .sub (.t 17) (.c (.int .i64 1))),
    .op (some 6) none (.mv (.t 18))]
def c44l6 : AC := .seq (.seq (.reg c44r3) (.cond (.t 16) (.skip) (.exit 0))) (.seq (.block 1 (.reg c44r4)) (.reg c44r5))
def c44r7 : List AStm := [.op (some 21) none (.mv (.t 5)),
    .op (some 22) none (.bin .rem (.t 21) (.c (.int .i64 2))),
    .op (some 4) none (.mv (.t 22))]
def c44 : CF := ⟨.seq (.reg c44r0) (.seq (.reg c44r1) (.seq (.seq (.reg c44r2) (.block 0 (.loop c44l6))) (.seq (.reg c44r7) (.ret)))), [.tmp 4], 23⟩
theorem cf44 : cfun Try.prog 44 = some c44 := by kernel_rfl

/-! ### weighbridge/weighbridgeref07.set, params 2 -/
def c45r0 : List AStm := [.op (some 2) none (.box (.t 0)),
    .op (some 4) none (.alloc (List.replicate 16 (.int .u8 0)))]
def c45r1 : List AStm := [.op (some 7) none (.load (some 16) (.t 2)),
    .op (some 8) none (.mv (.t 1)),
    .call (some 9) none (.c (.fn (.func 44) [] [])) [(.t 7), (.t 8)],
    .op (some 10) none (.bin .eql (.t 9) (.c (.int .i64 1)))]
def c45r2 : List AStm := [.op (some 11) none (.load (some 16) (.t 2)),
    .op none none (.store 16 (.t 4) (.t 11))]
def c45r3 : List AStm := [.op (some 5) none (.mv (.c (.int .i64 1)))]
def c45r4 : List AStm := [.op (some 12) none (.mv (.t 1)),
    .op (some 13) none (.bin .rem (.t 12) (.c (.int .i64 8))),
    .op (some 14) none (.bin .sub (.c (.int .i64 7)) (.t 13)),
    .op (some 6) none (.mv (.t 14))]
def c45r5 : List AStm := [.op (some 15) none (.mv (.t 6)),
    .op (some 16) none (.bin .gtr (.t 15) (.c (.int .i64 0)))]
def c45r6 : List AStm := [.op (some 19) none (.mv (.t 5)),
    .op (some 20) none (.bin .mul (.t 19) (.c (.int .i64 2))),
    .op (some 5) none (.mv (.t 20))]
def c45r7 : List AStm := [.op (some 17) none (.mv (.t 6)),
    .op (some 18) none (.bin .sub (.t 17) (.c (.int .i64 1))),
    .op (some 6) none (.mv (.t 18))]
def c45l8 : AC := .seq (.seq (.reg c45r5) (.cond (.t 16) (.skip) (.exit 0))) (.seq (.block 1 (.reg c45r6)) (.reg c45r7))
def c45r9 : List AStm := [.op (some 21) none (.mv (.t 1)),
    .op (some 22) none (.bin .quo (.t 21) (.c (.int .i64 8))),
    .op (some 23) none (.mv (.t 1)),
    .op (some 24) none (.bin .quo (.t 23) (.c (.int .i64 8))),
    .op (some 25) none (.ixa 16 1 (.t 2) (.t 24)),
    .op (some 26) none (.load none (.t 25)),
    .op (some 27) none (.conv .i64 (.t 26)),
    .op (some 28) none (.mv (.t 5)),
    .op (some 29) none (.bin .add (.t 27) (.t 28)),
    .op (some 30) none (.conv .u8 (.t 29)),
    .op (some 31) none (.ixa 16 1 (.t 2) (.t 22)),
    .op none none (.store 1 (.t 31) (.t 30))]
def c45r10 : List AStm := [.op (some 32) none (.load (some 16) (.t 2)),
    .op none none (.store 16 (.t 4) (.t 32))]
def c45 : CF := ⟨.seq (.reg c45r0) (.seq (.seq (.reg c45r1) (.cond (.t 10) (.seq (.reg c45r2) (.ret)) (.skip))) (.seq (.reg c45r3) (.seq (.seq (.reg c45r4) (.block 0 (.loop c45l8))) (.seq (.reg c45r9) (.seq (.reg c45r10) (.ret)))))), [.cell 4 (some 16)], 33⟩
theorem cf45 : cfun Try.prog 45 = some c45 := by kernel_rfl

/-! ### weighbridge/weighbridgeref07.front, params 2 -/
def c39r0 : List AStm := [.op (some 2) none (.box (.t 0)),
    .op (some 4) none (.alloc (List.replicate 16 (.int .u8 0)))]
def c39r1 : List AStm := [.op (some 5) none (.alloc (List.replicate 16 (.int .u8 0)))]
def c39r2 : List AStm := [.op (some 6) none (.mv (.c (.int .i64 0)))]
def c39r3 : List AStm := [.op (some 7) none (.mv (.t 6)),
    .op (some 8) none (.mv (.t 1)),
    .op (some 9) none (.bin .lss (.t 7) (.t 8))]
def c39r4 : List AStm := [.op (some 12) none (.load (some 16) (.t 2)),
    .op (some 13) none (.mv (.t 6)),
    .call (some 14) none (.c (.fn (.func 44) [] [])) [(.t 12), (.t 13)],
    .op (some 15) none (.bin .eql (.t 14) (.c (.int .i64 1)))]
def c39r5 : List AStm := [.op (some 16) none (.load (some 16) (.t 5)),
    .op (some 17) none (.mv (.t 6)),
    .call (some 18) none (.c (.fn (.func 45) [] [])) [(.t 16), (.t 17)],
    .op none none (.store 16 (.t 5) (.t 18))]
def c39r6 : List AStm := [.op (some 10) none (.mv (.t 6)),
    .op (some 11) none (.bin .add (.t 10) (.c (.int .i64 1))),
    .op (some 6) none (.mv (.t 11))]
def c39l7 : AC := .seq (.seq (.reg c39r3) (.cond (.t 9) (.skip) (.exit 0))) (.seq (.block 1 (.seq (.reg c39r4) (.cond (.t 15) (.reg c39r5) (.skip)))) (.reg c39r6))
def c39r8 : List AStm := [.op (some 19) none (.load (some 16) (.t 5)),
    .op none none (.store 16 (.t 4) (.t 19))]
def c39 : CF := ⟨.seq (.reg c39r0) (.seq (.reg c39r1) (.seq (.seq (.reg c39r2) (.block 0 (.loop c39l7))) (.seq (.reg c39r8) (.ret)))), [.cell 4 (some 16)], 20⟩
theorem cf39 : cfun Try.prog 39 = some c39 := by kernel_rfl

/-! ### weighbridge/weighbridgeref07.Check, params 1 -/
def c23r0 : List AStm := [.op (some 1) none (.box (.t 0)),
    .op (some 2) none (.mv (.c (.int .i64 0)))]
def c23r1 : List AStm := [.op (some 3) none (.faddr 0 (.t 1)),
    .op (some 4) none (.load none (.t 3)),
    .call (some 5) none (.c (.fn (.func 38) [] [])) [(.t 4)],
    .op (some 6) none (.bin .lss (.t 5) (.c (.int .i64 0)))]
def c23r2 : List AStm := [.op (some 2) none (.mv (.c (.int .i64 4)))]
def c23r3 : List AStm := []
def c23r4 : List AStm := [.op (some 7) none (.faddr 17 (.t 1)),
    .op (some 8) none (.load none (.t 7)),
    .op (some 9) none (.bin .lss (.t 8) (.c (.int .i64 0))),
    .op (some 10) none (.mv (.t 9)),
    .op (some 11) (some (10, false)) (.faddr 17 (.t 1)),
    .op (some 12) (some (10, false)) (.load none (.t 11)),
    .op (some 13) (some (10, false)) (.faddr 0 (.t 1)),
    .op (some 14) (some (10, false)) (.load none (.t 13)),
    .callG (some 15) (some (10, false)) (.c (.fn (.func 38) [] [])) [(.t 14)],
    .op (some 16) (some (10, false)) (.bin .gtr (.t 12) (.t 15)),
    .op (some 17) none (.pick (.t 10) (.c (.bool true)) (.t 16))]
def c23r5 : List AStm := [.op (some 2) none (.mv (.c (.int .i64 1)))]
def c23r6 : List AStm := []
def c23r7 : List AStm := [.op (some 18) none (.faddr 1 (.t 1)),
    .op (some 19) none (.load (some 16) (.t 18)),
    .op (some 20) none (.faddr 17 (.t 1)),
    .op (some 21) none (.load none (.t 20)),
    .op (some 23) none (.faddr 1 (.t 1)),
    .op (some 24) none (.load (some 16) (.t 23)),
    .callG (some 22) none (.c (.fn (.func 39) [] [])) [(.t 19), (.t 21)],
    .op (some 25) none (.eqa true (List.replicate 16 .ki) (.t 22) (.t 24))]
def c23r8 : List AStm := [.op (some 2) none (.mv (.c (.int .i64 5)))]
def c23r9 : List AStm := [.op (some 2) none (.mv (.c (.int .i64 0)))]
def c23 : CF := ⟨.seq (.reg c23r0) (.seq (.seq (.reg c23r1) (.cond (.t 6) (.seq (.reg c23r2) (.ret)) (.skip))) (.seq (.seq (.dreg c23r3 c23r4) (.cond (.t 17) (.seq (.reg c23r5) (.ret)) (.skip))) (.seq (.seq (.dreg c23r6 c23r7) (.cond (.t 25) (.seq (.reg c23r8) (.ret)) (.skip))) (.seq (.reg c23r9) (.ret))))), [.tmp 2], 26⟩
theorem cf23 : cfun Try.prog 23 = some c23 := by kernel_rfl

/-! ### weighbridge/weighbridgeref07.Has, params 3 -/
def c26r0 : List AStm := [.op (some 3) none (.box (.t 0)),
    .op (some 5) none (.box (.t 2)),
    .op (some 6) none (.mv (.c (.bool false)))]
def c26r1 : List AStm := []
def c26r2 : List AStm := [.op (some 7) none (.load (some 18) (.t 3)),
    .callG (some 8) none (.c (.fn (.func 23) [] [])) [(.t 7)],
    .op (some 9) none (.bin .eql (.t 8) (.c (.int .i64 0))),
    .op (some 10) none (.mv (.t 9)),
    .op (some 11) (some (10, true)) (.mv (.t 1)),
    .op (some 12) (some (10, true)) (.faddr 0 (.t 3)),
    .op (some 13) (some (10, true)) (.load none (.t 12)),
    .op (some 14) (some (10, true)) (.bin .eql (.t 11) (.t 13)),
    .op (some 15) none (.pick (.t 10) (.t 14) (.c (.bool false))),
    .op (some 16) none (.mv (.t 15)),
    .op (some 17) (some (16, true)) (.load (some 16) (.t 5)),
    .op (some 18) (some (16, true)) (.faddr 17 (.t 3)),
    .op (some 19) (some (16, true)) (.load none (.t 18)),
    .op (some 21) (some (16, true)) (.faddr 1 (.t 3)),
    .op (some 22) (some (16, true)) (.load (some 16) (.t 21)),
    .callG (some 20) (some (16, true)) (.c (.fn (.func 39) [] [])) [(.t 17), (.t 19)],
    .op (some 23) (some (16, true)) (.eqa false (List.replicate 16 .ki) (.t 20) (.t 22)),
    .op (some 24) none (.pick (.t 16) (.t 23) (.c (.bool false))),
    .op (some 6) none (.mv (.t 24))]
def c26 : CF := ⟨.seq (.reg c26r0) (.seq (.dreg c26r1 c26r2) (.ret)), [.tmp 6], 25⟩
theorem cf26 : cfun Try.prog 26 = some c26 := by kernel_rfl

/-! ### weighbridge/weighbridgeref07.Make, params 3 -/
def c28r0 : List AStm := [.op (some 4) none (.box (.t 1)),
    .op (some 6) none (.alloc [(.int .i64 0), (.int .u8 0), (.int .u8 0), (.int .u8 0), (.int .u8 0), (.int .u8 0), (.int .u8 0), (.int .u8 0), (.int .u8 0), (.int .u8 0), (.int .u8 0), (.int .u8 0), (.int .u8 0), (.int .u8 0), (.int .u8 0), (.int .u8 0), (.int .u8 0), (.int .i64 0)]),
    .op (some 7) none (.mv (.c (.int .i64 0)))]
def c28r1 : List AStm := [.op (some 8) none (.mv (.t 0)),
    .call (some 9) none (.c (.fn (.func 38) [] [])) [(.t 8)],
    .op (some 10) none (.bin .lss (.t 9) (.c (.int .i64 0)))]
def c28r2 : List AStm := [.op (some 11) none (.build [(.int .i64 0), (.int .u8 0), (.int .u8 0), (.int .u8 0), (.int .u8 0), (.int .u8 0), (.int .u8 0), (.int .u8 0), (.int .u8 0), (.int .u8 0), (.int .u8 0), (.int .u8 0), (.int .u8 0), (.int .u8 0), (.int .u8 0), (.int .u8 0), (.int .u8 0), (.int .i64 0)] []),
    .op none none (.store 18 (.t 6) (.t 11)),
    .op (some 7) none (.mv (.c (.int .i64 4)))]
def c28r3 : List AStm := [.op (some 12) none (.mv (.t 2)),
    .op (some 13) none (.bin .lss (.t 12) (.c (.int .i64 0))),
    .op (some 14) none (.mv (.t 13)),
    .op (some 15) (some (14, false)) (.mv (.t 2)),
    .op (some 16) (some (14, false)) (.mv (.t 0)),
    .call (some 17) (some (14, false)) (.c (.fn (.func 38) [] [])) [(.t 16)],
    .op (some 18) (some (14, false)) (.bin .gtr (.t 15) (.t 17)),
    .op (some 19) none (.pick (.t 14) (.c (.bool true)) (.t 18))]
def c28r4 : List AStm := [.op (some 20) none (.build [(.int .i64 0), (.int .u8 0), (.int .u8 0), (.int .u8 0), (.int .u8 0), (.int .u8 0), (.int .u8 0), (.int .u8 0), (.int .u8 0), (.int .u8 0), (.int .u8 0), (.int .u8 0), (.int .u8 0), (.int .u8 0), (.int .u8 0), (.int .u8 0), (.int .u8 0), (.int .i64 0)] []),
    .op none none (.store 18 (.t 6) (.t 20)),
    .op (some 7) none (.mv (.c (.int .i64 1)))]
def c28r5 : List AStm := [.op (some 21) none (.mv (.t 0)),
    .op (some 22) none (.load (some 16) (.t 4)),
    .op (some 23) none (.mv (.t 2)),
    .call (some 24) none (.c (.fn (.func 39) [] [])) [(.t 22), (.t 23)],
    .op (some 25) none (.mv (.t 2)),
    .op (some 26) none (.build [(.int .i64 0), (.int .u8 0), (.int .u8 0), (.int .u8 0), (.int .u8 0), (.int .u8 0), (.int .u8 0), (.int .u8 0), (.int .u8 0), (.int .u8 0), (.int .u8 0), (.int .u8 0), (.int .u8 0), (.int .u8 0), (.int .u8 0), (.int .u8 0), (.int .u8 0), (.int .i64 0)] [(0, 1, (.t 21)), (1, 16, (.t 24)), (17, 1, (.t 25))]),
    .op none none (.store 18 (.t 6) (.t 26)),
    .op (some 7) none (.mv (.c (.int .i64 0)))]
def c28 : CF := ⟨.seq (.reg c28r0) (.seq (.seq (.reg c28r1) (.cond (.t 10) (.seq (.reg c28r2) (.ret)) (.skip))) (.seq (.seq (.reg c28r3) (.cond (.t 19) (.seq (.reg c28r4) (.ret)) (.skip))) (.seq (.reg c28r5) (.ret)))), [.cell 6 (some 18), .tmp 7], 27⟩
theorem cf28 : cfun Try.prog 28 = some c28 := by kernel_rfl



def mostR (v : Int) : Int := match mostF v with | some m => (m : Int) | none => -1
theorem rmost_fc (h : Heap) (v : Int) : FC Try.prog 38 [.int .i64 v] h fun d h' => d = .int .i64 (mostR v) ∧ h' = h := by
  refine FC.goes cf38 ?_; simp only [c38]; simp only [List.length_cons, List.length_nil, Nat.reduceAdd, Nat.reduceSub, List.replicate_succ, List.replicate_zero, List.cons_append, List.nil_append]
  by_cases h4 : v = 4
  · subst h4
    simp (disch := first | omega | (simp only [List.length_append, List.length_cons, List.length_nil]; omega)) only [c38r0, c38r1, c38r2, c38r3, c38r4, c38r5, go_sem, ↓reduceIte, reduceCtorEq, Nat.reduceAdd, Nat.reduceSub, Nat.reducePow, Nat.reduceMul, Nat.reduceEqDiff, Nat.reduceLT, Nat.reduceLeDiff, Int.reduceToNat, Int.reduceLT, Int.reduceLE, Int.reduceEq, Int.reduceNeg, Int.reduceAdd, Int.reduceSub, Int.reduceMul]
    exact FinOk.all ⟨rfl, rfl⟩
  · by_cases h6 : v = 6
    · subst h6
      simp (disch := first | omega | (simp only [List.length_append, List.length_cons, List.length_nil]; omega)) only [c38r0, c38r1, c38r2, c38r3, c38r4, c38r5, go_sem, ↓reduceIte, reduceCtorEq, Nat.reduceAdd, Nat.reduceSub, Nat.reducePow, Nat.reduceMul, Nat.reduceEqDiff, Nat.reduceLT, Nat.reduceLeDiff, Int.reduceToNat, Int.reduceLT, Int.reduceLE, Int.reduceEq, Int.reduceNeg, Int.reduceAdd, Int.reduceSub, Int.reduceMul]
      exact FinOk.all ⟨rfl, rfl⟩
    · have e1 : mostF v = none := by simp [mostF, h4, h6]
      have e2 : mostR v = -1 := by rw [mostR, e1]
      rw [e2]
      simp (disch := first | omega | (simp only [List.length_append, List.length_cons, List.length_nil]; omega)) only [c38r0, c38r1, c38r2, c38r3, c38r4, c38r5, h4, h6, go_sem, ↓reduceIte, reduceCtorEq, Nat.reduceAdd, Nat.reduceSub, Nat.reducePow, Nat.reduceMul, Nat.reduceEqDiff, Nat.reduceLT, Nat.reduceLeDiff, Int.reduceToNat, Int.reduceLT, Int.reduceLE, Int.reduceEq, Int.reduceNeg, Int.reduceAdd, Int.reduceSub, Int.reduceMul]
      exact FinOk.all ⟨rfl, rfl⟩

def bitN (a : List UInt8) (i : Nat) : Nat := (a.getD (i / 8) 0).toNat / 2 ^ (7 - i % 8) % 2
theorem bitN_eq (a : List UInt8) (i : Nat) : bitN a i = if abit a i then 1 else 0 := by
  unfold bitN abit
  rw [Nat.testBit_eq_decide_div_mod_eq]
  have h := Nat.mod_two_eq_zero_or_one ((a.getD (i / 8) 0).toNat / 2 ^ (7 - i % 8))
  generalize (a.getD (i / 8) 0).toNat / 2 ^ (7 - i % 8) % 2 = q at *
  rcases h with rfl | rfl <;> rfl
theorem byte_at {a : List UInt8} (ha : a.length = 16) {k : Nat} (hk : k < 16) : (List.drop k (ofBytes a))[0]? = some (.int .u8 ((a.getD k 0).toNat : Int)) := by
  rw [List.getElem?_drop, Nat.add_zero, ofBytes_get, getB (by omega)]; rfl
theorem rbit_fc (h : Heap) (a : List UInt8) (ha : a.length = 16) (i : Nat) (hi : i < 128) : FC Try.prog 44 [.agg (ofBytes a), .int .i64 (i : Int)] h fun d h' => d = .int .i64 ((bitN a i : Nat) : Int) ∧ h' = h := by
  refine FC.goes cf44 ?_; simp only [c44]; simp only [List.length_cons, List.length_nil, Nat.reduceAdd, Nat.reduceSub, List.replicate_succ, List.replicate_zero, List.cons_append, List.nil_append]
  have e1 : IntKind.i64.wrap ((i / 8 : Nat) : Int) = ((i / 8 : Nat) : Int) := w_i64 (by omega) (by omega)
  have e2 : IntKind.i64.wrap ((i % 8 : Nat) : Int) = ((i % 8 : Nat) : Int) := w_i64 (by omega) (by omega)
  have e3 : IntKind.i64.wrap (7 - ((i % 8 : Nat) : Int)) = ((7 - i % 8 : Nat) : Int) := by rw [w_i64 (by omega) (by omega)]; omega
  have hi8 : i / 8 < 16 := by omega
  have hg := byte_at ha hi8
  have hb := (a.getD (i / 8) 0).toNat_lt
  have hbn : bitN a i = (a.getD (i / 8) 0).toNat / 2 ^ (7 - i % 8) % 2 := rfl
  have hal : (ofBytes a).length = 16 := by rw [ofBytes_length, ha]
  rw [hbn]
  generalize a.getD (i / 8) 0 = b at *
  have e4 : IntKind.i64.wrap (b.toNat : Int) = (b.toNat : Int) := w_i64 (by omega) (by omega)
  simp (disch := first | omega | (simp only [List.length_append, List.length_cons, List.length_nil]; omega)) only [c44r0, c44r1, c44r2, c44r3, c44r4, c44r5, c44l6, c44r7, e1, e2, e3, e4, hg, hal, go_sem, ↓reduceIte, reduceCtorEq, Nat.reduceAdd, Nat.reduceSub, Nat.reducePow, Nat.reduceMul, Nat.reduceEqDiff, Nat.reduceLT, Nat.reduceLeDiff, Int.reduceToNat, Int.reduceLT, Int.reduceLE, Int.reduceEq, Int.reduceNeg, Int.reduceAdd, Int.reduceSub, Int.reduceMul]
  have hs : 7 - i % 8 ≤ 7 := by omega
  generalize 7 - i % 8 = s at *
  refine loop_to s (fun k st => ∃ (v q : Nat), v = b.toNat / 2 ^ k ∧ q + k = s ∧ ∃ (j : Nat → D), st = ⟨(j 0 :: j 1 :: j 2 :: j 3 :: j 4 :: .int .i64 (v : Int) :: .int .i64 (q : Int) :: j 7 :: j 8 :: j 9 :: j 10 :: j 11 :: j 12 :: j 13 :: j 14 :: j 15 :: j 16 :: j 17 :: j 18 :: j 19 :: j 20 :: j 21 :: j 22 :: []), h ++ [.box (ofBytes a)]⟩) ⟨_, s, by simp, by omega, junk rfl⟩ ?_
  rintro k st hk ⟨v, q, hv, hq, j, rfl⟩
  have hvl : v ≤ b.toNat := by rw [hv]; exact Nat.div_le_self _ _
  by_cases hks : k < s
  · have h0 : (0 : Int) < q := by omega
    have f1 : IntKind.i64.wrap ((v / 2 : Nat) : Int) = ((v / 2 : Nat) : Int) := w_i64 (by omega) (by omega)
    have f2 : IntKind.i64.wrap ((q : Int) - 1) = ((q - 1 : Nat) : Int) := by rw [w_i64 (by omega) (by omega)]; omega
    simp (disch := first | omega | (simp only [List.length_append, List.length_cons, List.length_nil]; omega)) only [c44r0, c44r1, c44r2, c44r3, c44r4, c44r5, c44l6, c44r7, h0, f1, f2, go_sem, ↓reduceIte, reduceCtorEq, Nat.reduceAdd, Nat.reduceSub, Nat.reducePow, Nat.reduceMul, Nat.reduceEqDiff, Nat.reduceLT, Nat.reduceLeDiff, Int.reduceToNat, Int.reduceLT, Int.reduceLE, Int.reduceEq, Int.reduceNeg, Int.reduceAdd, Int.reduceSub, Int.reduceMul]
    refine ⟨hks, v / 2, q - 1, ?_, by omega, junk rfl⟩
    rw [hv, Nat.pow_succ, Nat.div_div_eq_div_mul]
  · have h0 : ¬ (0 : Int) < q := by omega
    have : k = s := by omega
    subst this
    have f1 : IntKind.i64.wrap ((v % 2 : Nat) : Int) = ((v % 2 : Nat) : Int) := w_i64 (by omega) (by omega)
    simp (disch := first | omega | (simp only [List.length_append, List.length_cons, List.length_nil]; omega)) only [c44r0, c44r1, c44r2, c44r3, c44r4, c44r5, c44l6, c44r7, h0, f1, go_sem, ↓reduceIte, reduceCtorEq, Nat.reduceAdd, Nat.reduceSub, Nat.reducePow, Nat.reduceMul, Nat.reduceEqDiff, Nat.reduceLT, Nat.reduceLeDiff, Int.reduceToNat, Int.reduceLT, Int.reduceLE, Int.reduceEq, Int.reduceNeg, Int.reduceAdd, Int.reduceSub, Int.reduceMul]
    rw [hv]
    exact FinOk.drop (.inl rfl) (by simp [underL, underD]) ⟨rfl, rfl⟩

theorem or_add8 : ∀ (x : Fin 256) (s : Fin 8), x.val / 2 ^ s.val % 2 = 0 → x.val + 2 ^ s.val = x.val ||| 2 ^ s.val := by decide +kernel
theorem or_same8 : ∀ (x : Fin 256) (s : Fin 8), ¬ x.val / 2 ^ s.val % 2 = 0 → x.val ||| 2 ^ s.val = x.val := by decide +kernel
theorem setA_same {a : List UInt8} {i : Nat} (h : bitN a i = 1) : setA a i = a := by
  have hb := (a.getD (i / 8) 0).toNat_lt
  have h1 : (a.getD (i / 8) 0).toNat / 2 ^ (7 - i % 8) % 2 = 1 := h
  have h2 := or_same8 ⟨(a.getD (i / 8) 0).toNat, hb⟩ ⟨7 - i % 8, by omega⟩ (by simp only; omega)
  simp only at h2
  unfold setA
  rw [h2]
  refine bytes_ext (by simp) fun k hk => ?_
  rw [getD_set8]
  split
  · rename_i hc
    obtain ⟨rfl, _⟩ := hc
    apply UInt8.toNat_inj.1
    exact UInt8.toNat_ofNat_of_lt' hb
  · rfl
theorem set_fcR (h : Heap) (a : List UInt8) (ha : a.length = 16) (i : Nat) (hi : i < 128) : FC Try.prog 45 [.agg (ofBytes a), .int .i64 (i : Int)] h fun d h' => d = .agg (ofBytes (setA a i)) ∧ h' = h := by
  have hal : (ofBytes a).length = 16 := by rw [ofBytes_length, ha]
  have p7 : List.take 16 (ofBytes a) = ofBytes a := List.take_of_length_le (by omega)
  refine FC.goes cf45 ?_; simp only [c45]; simp only [List.length_cons, List.length_nil, Nat.reduceAdd, Nat.reduceSub, List.replicate_succ, List.replicate_zero, List.cons_append, List.nil_append]
  simp (disch := first | omega | (simp only [List.length_append, List.length_cons, List.length_nil]; omega)) only [c45r0, c45r1, c45r2, c45r3, c45r4, c45r5, c45r6, c45r7, c45l8, c45r9, c45r10, p7, hal, go_sem, ↓reduceIte, reduceCtorEq, Nat.reduceAdd, Nat.reduceSub, Nat.reducePow, Nat.reduceMul, Nat.reduceEqDiff, Nat.reduceLT, Nat.reduceLeDiff, Int.reduceToNat, Int.reduceLT, Int.reduceLE, Int.reduceEq, Int.reduceNeg, Int.reduceAdd, Int.reduceSub, Int.reduceMul]
  refine gfc_of (rbit_fc _ a ha i hi) ?_
  rintro d h' ⟨rfl, e⟩
  rw [e]
  by_cases hb1 : bitN a i = 1
  · rw [hb1, setA_same hb1]
    simp (disch := first | omega | (simp only [List.length_append, List.length_cons, List.length_nil]; omega)) only [p7, hal, go_sem, ↓reduceIte, reduceCtorEq, Nat.reduceAdd, Nat.reduceSub, Nat.reducePow, Nat.reduceMul, Nat.reduceEqDiff, Nat.reduceLT, Nat.reduceLeDiff, Int.reduceToNat, Int.reduceLT, Int.reduceLE, Int.reduceEq, Int.reduceNeg, Int.reduceAdd, Int.reduceSub, Int.reduceMul]
    exact FinOk.drop (.inl rfl) (by simp [underL, underD, under_bytes]) ⟨rfl, rfl⟩
  · have hb1' : ¬ ((bitN a i : Nat) : Int) = 1 := by omega
    have e1 : IntKind.i64.wrap ((i / 8 : Nat) : Int) = ((i / 8 : Nat) : Int) := w_i64 (by omega) (by omega)
    have e2 : IntKind.i64.wrap ((i % 8 : Nat) : Int) = ((i % 8 : Nat) : Int) := w_i64 (by omega) (by omega)
    have e3 : IntKind.i64.wrap (7 - ((i % 8 : Nat) : Int)) = ((7 - i % 8 : Nat) : Int) := by rw [w_i64 (by omega) (by omega)]; omega
    simp (disch := first | omega | (simp only [List.length_append, List.length_cons, List.length_nil]; omega)) only [hb1', e1, e2, e3, go_sem, ↓reduceIte, reduceCtorEq, Nat.reduceAdd, Nat.reduceSub, Nat.reducePow, Nat.reduceMul, Nat.reduceEqDiff, Nat.reduceLT, Nat.reduceLeDiff, Int.reduceToNat, Int.reduceLT, Int.reduceLE, Int.reduceEq, Int.reduceNeg, Int.reduceAdd, Int.reduceSub, Int.reduceMul]
    have hi8 : i / 8 < 16 := by omega
    have hg := byte_at ha hi8
    have hb := (a.getD (i / 8) 0).toNat_lt
    have hbn : bitN a i = (a.getD (i / 8) 0).toNat / 2 ^ (7 - i % 8) % 2 := rfl
    have h2 := or_add8 ⟨(a.getD (i / 8) 0).toNat, hb⟩ ⟨7 - i % 8, by omega⟩ (by simp only; omega)
    simp only at h2
    have hsA : setA a i = a.set (i / 8) (UInt8.ofNat ((a.getD (i / 8) 0).toNat ||| 2 ^ (7 - i % 8))) := rfl
    have hol := or_lt (a.getD (i / 8) 0) (s := 7 - i % 8) (by omega)
    have hbt : (UInt8.ofNat ((a.getD (i / 8) 0).toNat ||| 2 ^ (7 - i % 8))).toNat = (a.getD (i / 8) 0).toNat ||| 2 ^ (7 - i % 8) := UInt8.toNat_ofNat_of_lt' hol
    have hs : 7 - i % 8 ≤ 7 := by omega
    generalize 7 - i % 8 = s at *
    generalize a.getD (i / 8) 0 = b at *
    refine loop_to s (fun k st => ∃ (q : Nat), q + k = s ∧ ∃ (j : Nat → D), st = ⟨(j 0 :: .int .i64 (i : Int) :: .ref h.length 0 :: j 3 :: .ref (h.length + 1) 0 :: .int .i64 ((2 ^ k : Nat) : Int) :: .int .i64 (q : Int) :: j 7 :: j 8 :: j 9 :: j 10 :: j 11 :: j 12 :: j 13 :: j 14 :: j 15 :: j 16 :: j 17 :: j 18 :: j 19 :: j 20 :: j 21 :: j 22 :: j 23 :: j 24 :: j 25 :: j 26 :: j 27 :: j 28 :: j 29 :: j 30 :: j 31 :: j 32 :: []), h ++ [.box (ofBytes a), .box (List.replicate 16 (.int .u8 0))]⟩) ⟨s, by omega, junk rfl⟩ ?_
    rintro k st hk ⟨q, hq, j, rfl⟩
    have hpk : 2 ^ k ≤ 128 := Nat.le_trans (Nat.pow_le_pow_right (n := 2) (by omega) (by omega : k ≤ 7)) (by decide)
    by_cases hks : k < s
    · have h0 : (0 : Int) < q := by omega
      have f1 : IntKind.i64.wrap (((2 ^ k : Nat) : Int) * 2) = ((2 ^ (k + 1) : Nat) : Int) := by
        rw [Nat.pow_succ]
        generalize 2 ^ k = x at hpk ⊢
        rw [w_i64 (by omega) (by omega)]; omega
      have f2 : IntKind.i64.wrap ((q : Int) - 1) = ((q - 1 : Nat) : Int) := by rw [w_i64 (by omega) (by omega)]; omega
      simp (disch := first | omega | (simp only [List.length_append, List.length_cons, List.length_nil]; omega)) only [c45r0, c45r1, c45r2, c45r3, c45r4, c45r5, c45r6, c45r7, c45l8, c45r9, c45r10, h0, f1, f2, go_sem, ↓reduceIte, reduceCtorEq, Nat.reduceAdd, Nat.reduceSub, Nat.reducePow, Nat.reduceMul, Nat.reduceEqDiff, Nat.reduceLT, Nat.reduceLeDiff, Int.reduceToNat, Int.reduceLT, Int.reduceLE, Int.reduceEq, Int.reduceNeg, Int.reduceAdd, Int.reduceSub, Int.reduceMul]
      exact ⟨hks, q - 1, by omega, junk rfl⟩
    · have h0 : ¬ (0 : Int) < q := by omega
      have : k = s := by omega
      subst this
      have f3 : IntKind.i64.wrap (b.toNat : Int) = (b.toNat : Int) := w_i64 (by omega) (by omega)
      have f4 : IntKind.i64.wrap ((b.toNat : Int) + ((2 ^ k : Nat) : Int)) = ((b.toNat ||| 2 ^ k : Nat) : Int) := by rw [← h2, w_i64 (by omega) (by omega)]; omega
      have f5 : IntKind.u8.wrap ((b.toNat ||| 2 ^ k : Nat) : Int) = ((b.toNat ||| 2 ^ k : Nat) : Int) := w_u8 (by omega) (by omega)
      have hput := ofBytes_put a (i / 8) (UInt8.ofNat (b.toNat ||| 2 ^ k))
      rw [hbt, ← hsA] at hput
      have p8 : List.take 16 (ofBytes (setA a i)) = ofBytes (setA a i) := List.take_of_length_le (by rw [ofBytes_length, setA_length, ha]; exact Nat.le_refl _)
      have hsl : (ofBytes (setA a i)).length = 16 := by rw [ofBytes_length, setA_length, ha]
      have hput' := hput.symm
      simp (disch := first | omega | (simp only [List.length_append, List.length_cons, List.length_nil]; omega)) only [c45r0, c45r1, c45r2, c45r3, c45r4, c45r5, c45r6, c45r7, c45l8, c45r9, c45r10, h0, e1, hg, hal, f3, f4, f5, hput', p8, hsl, go_sem, ↓reduceIte, reduceCtorEq, Nat.reduceAdd, Nat.reduceSub, Nat.reducePow, Nat.reduceMul, Nat.reduceEqDiff, Nat.reduceLT, Nat.reduceLeDiff, Int.reduceToNat, Int.reduceLT, Int.reduceLE, Int.reduceEq, Int.reduceNeg, Int.reduceAdd, Int.reduceSub, Int.reduceMul]
      exact FinOk.drop (.inl rfl) (by simp [underL, underD, under_bytes]) ⟨rfl, rfl⟩

theorem rfront_fc (h : Heap) (a : List UInt8) (ha : a.length = 16) (n : Nat) (hn : n ≤ 128) : FC Try.prog 39 [.agg (ofBytes a), .int .i64 (n : Int)] h fun d h' => d = .agg (ofBytes (frontTo a n)) ∧ h' = h := by
  have hal : (ofBytes a).length = 16 := by rw [ofBytes_length, ha]
  have p7 : List.take 16 (ofBytes a) = ofBytes a := List.take_of_length_le (by omega)
  have hz : List.replicate 16 (D.int .u8 0) = ofBytes (frontTo a 0) := rfl
  refine FC.goes cf39 ?_; simp only [c39]; simp only [List.length_cons, List.length_nil, Nat.reduceAdd, Nat.reduceSub, List.replicate_succ, List.replicate_zero, List.cons_append, List.nil_append]
  simp (disch := first | omega | (simp only [List.length_append, List.length_cons, List.length_nil]; omega)) only [c39r0, c39r1, c39r2, c39r3, c39r4, c39r5, c39r6, c39l7, c39r8, go_sem, ↓reduceIte, reduceCtorEq, Nat.reduceAdd, Nat.reduceSub, Nat.reducePow, Nat.reduceMul, Nat.reduceEqDiff, Nat.reduceLT, Nat.reduceLeDiff, Int.reduceToNat, Int.reduceLT, Int.reduceLE, Int.reduceEq, Int.reduceNeg, Int.reduceAdd, Int.reduceSub, Int.reduceMul]
  refine loop_to n (fun k st => ∃ (j : Nat → D), st = ⟨(j 0 :: .int .i64 (n : Int) :: .ref h.length 0 :: j 3 :: .ref (h.length + 1) 0 :: .ref (h.length + 2) 0 :: .int .i64 (k : Int) :: j 7 :: j 8 :: j 9 :: j 10 :: j 11 :: j 12 :: j 13 :: j 14 :: j 15 :: j 16 :: j 17 :: j 18 :: j 19 :: []), h ++ [.box (ofBytes a), .box (List.replicate 16 (.int .u8 0)), .box (ofBytes (frontTo a k))]⟩) (by rw [← hz]; exact junk rfl) ?_
  rintro k st hk ⟨j, rfl⟩
  have hfl := frontTo_length a k
  have hfl2 : (ofBytes (frontTo a k)).length = 16 := by rw [ofBytes_length, hfl]
  have p8 : List.take 16 (ofBytes (frontTo a k)) = ofBytes (frontTo a k) := List.take_of_length_le (by omega)
  by_cases hkn : k < n
  · have hkn' : (k : Int) < n := by omega
    have e5 : IntKind.i64.wrap ((k : Int) + 1) = ((k + 1 : Nat) : Int) := by rw [w_i64 (by omega) (by omega)]; omega
    have hstep : frontTo a (k + 1) = if abit a k then setA (frontTo a k) k else frontTo a k := rfl
    simp (disch := first | omega | (simp only [List.length_append, List.length_cons, List.length_nil]; omega)) only [c39r0, c39r1, c39r2, c39r3, c39r4, c39r5, c39r6, c39l7, c39r8, hkn', p7, hal, go_sem, ↓reduceIte, reduceCtorEq, Nat.reduceAdd, Nat.reduceSub, Nat.reducePow, Nat.reduceMul, Nat.reduceEqDiff, Nat.reduceLT, Nat.reduceLeDiff, Int.reduceToNat, Int.reduceLT, Int.reduceLE, Int.reduceEq, Int.reduceNeg, Int.reduceAdd, Int.reduceSub, Int.reduceMul]
    refine gfc_of (rbit_fc _ a ha k (by omega)) ?_
    rintro d h' ⟨rfl, e⟩
    rw [e]
    by_cases hb : abit a k = true
    · have hbn : bitN a k = 1 := by rw [bitN_eq, hb]; rfl
      rw [hbn]
      simp (disch := first | omega | (simp only [List.length_append, List.length_cons, List.length_nil]; omega)) only [p8, hfl2, go_sem, ↓reduceIte, reduceCtorEq, Nat.reduceAdd, Nat.reduceSub, Nat.reducePow, Nat.reduceMul, Nat.reduceEqDiff, Nat.reduceLT, Nat.reduceLeDiff, Int.reduceToNat, Int.reduceLT, Int.reduceLE, Int.reduceEq, Int.reduceNeg, Int.reduceAdd, Int.reduceSub, Int.reduceMul]
      refine gfc_of (set_fcR _ _ hfl k (by omega)) ?_
      rintro d h' ⟨rfl, e⟩
      rw [e]
      have hsl : (ofBytes (setA (frontTo a k) k)).length = 16 := by rw [ofBytes_length, setA_length, hfl]
      have p9 : List.take 16 (ofBytes (setA (frontTo a k) k)) = ofBytes (setA (frontTo a k) k) := List.take_of_length_le (by omega)
      simp (disch := first | omega | (simp only [List.length_append, List.length_cons, List.length_nil]; omega)) only [hsl, hfl2, p9, e5, go_sem, ↓reduceIte, reduceCtorEq, Nat.reduceAdd, Nat.reduceSub, Nat.reducePow, Nat.reduceMul, Nat.reduceEqDiff, Nat.reduceLT, Nat.reduceLeDiff, Int.reduceToNat, Int.reduceLT, Int.reduceLE, Int.reduceEq, Int.reduceNeg, Int.reduceAdd, Int.reduceSub, Int.reduceMul]
      refine ⟨hkn, ?_⟩
      rw [hstep, if_pos hb]
      exact junk rfl
    · have hbn : bitN a k = 0 := by rw [bitN_eq, if_neg hb]
      rw [hbn]
      simp (disch := first | omega | (simp only [List.length_append, List.length_cons, List.length_nil]; omega)) only [e5, go_sem, ↓reduceIte, reduceCtorEq, Nat.reduceAdd, Nat.reduceSub, Nat.reducePow, Nat.reduceMul, Nat.reduceEqDiff, Nat.reduceLT, Nat.reduceLeDiff, Int.reduceToNat, Int.reduceLT, Int.reduceLE, Int.reduceEq, Int.reduceNeg, Int.reduceAdd, Int.reduceSub, Int.reduceMul]
      refine ⟨hkn, ?_⟩
      rw [hstep, if_neg hb]
      exact junk rfl
  · have hkn' : ¬ (k : Int) < n := by omega
    have : k = n := by omega
    subst this
    simp (disch := first | omega | (simp only [List.length_append, List.length_cons, List.length_nil]; omega)) only [c39r0, c39r1, c39r2, c39r3, c39r4, c39r5, c39r6, c39l7, c39r8, hkn', p8, hfl2, go_sem, ↓reduceIte, reduceCtorEq, Nat.reduceAdd, Nat.reduceSub, Nat.reducePow, Nat.reduceMul, Nat.reduceEqDiff, Nat.reduceLT, Nat.reduceLeDiff, Int.reduceToNat, Int.reduceLT, Int.reduceLE, Int.reduceEq, Int.reduceNeg, Int.reduceAdd, Int.reduceSub, Int.reduceMul]
    exact FinOk.drop (.inl rfl) (by simp [underL, underD, under_bytes]) ⟨rfl, rfl⟩

theorem mostR_fits {v n : Int} : fitsF v n = if mostR v < 0 then 4 else if n < 0 ∨ mostR v < n then 1 else 0 := by
  unfold fitsF mostR
  cases mostF v with
  | none => rfl
  | some m =>
    have : ¬ (m : Int) < 0 := by omega
    simp only [this, if_false]
theorem rcheck_fc (h : Heap) (v n : Int) (a : List UInt8) (ha : a.length = 16) : FC Try.prog 23 [prefD v a n] h fun d h' => d = .int .i64 (checkF v a n) ∧ h' = h := by
  have p1 := pr_take ha [.int .i64 n]
  have p2 := pr_drop ha [.int .i64 n]
  have p3 := pr_len ha (.int .i64 n)
  have p4 := pr_one a n
  have hfit := mostR_fits (v := v) (n := n)
  refine FC.goes cf23 ?_; simp only [c23]; simp only [List.length_cons, List.length_nil, Nat.reduceAdd, Nat.reduceSub, List.replicate_succ, List.replicate_zero, List.cons_append, List.nil_append]
  simp (disch := first | omega | (simp only [List.length_append, List.length_cons, List.length_nil]; omega)) only [c23r0, c23r1, c23r2, c23r3, c23r4, c23r5, c23r6, c23r7, c23r8, c23r9, prefD, p2, p3, p4, go_sem, ↓reduceIte, reduceCtorEq, Nat.reduceAdd, Nat.reduceSub, Nat.reducePow, Nat.reduceMul, Nat.reduceEqDiff, Nat.reduceLT, Nat.reduceLeDiff, Int.reduceToNat, Int.reduceLT, Int.reduceLE, Int.reduceEq, Int.reduceNeg, Int.reduceAdd, Int.reduceSub, Int.reduceMul]
  refine gfc_of (rmost_fc _ v) ?_
  rintro d h' ⟨rfl, e⟩
  rw [e]
  by_cases hm : mostR v < 0
  · rw [if_pos hm] at hfit
    have hc : checkF v a n = 4 := by simp [checkF, hfit]
    rw [hc]
    simp (disch := first | omega | (simp only [List.length_append, List.length_cons, List.length_nil]; omega)) only [hm, go_sem, ↓reduceIte, reduceCtorEq, Nat.reduceAdd, Nat.reduceSub, Nat.reducePow, Nat.reduceMul, Nat.reduceEqDiff, Nat.reduceLT, Nat.reduceLeDiff, Int.reduceToNat, Int.reduceLT, Int.reduceLE, Int.reduceEq, Int.reduceNeg, Int.reduceAdd, Int.reduceSub, Int.reduceMul]
    exact FinOk.drop (.inl rfl) (by simp [underL, underD]) ⟨rfl, rfl⟩
  · rw [if_neg hm] at hfit
    by_cases h0 : n < 0
    · rw [if_pos (.inl h0)] at hfit
      have hc : checkF v a n = 1 := by simp [checkF, hfit]
      rw [hc]
      simp (disch := first | omega | (simp only [List.length_append, List.length_cons, List.length_nil]; omega)) only [hm, h0, p2, go_sem, ↓reduceIte, reduceCtorEq, Nat.reduceAdd, Nat.reduceSub, Nat.reducePow, Nat.reduceMul, Nat.reduceEqDiff, Nat.reduceLT, Nat.reduceLeDiff, Int.reduceToNat, Int.reduceLT, Int.reduceLE, Int.reduceEq, Int.reduceNeg, Int.reduceAdd, Int.reduceSub, Int.reduceMul]
      exact FinOk.drop (.inl rfl) (by simp [underL, underD]) ⟨rfl, rfl⟩
    · simp (disch := first | omega | (simp only [List.length_append, List.length_cons, List.length_nil]; omega)) only [hm, h0, p2, go_sem, ↓reduceIte, reduceCtorEq, Nat.reduceAdd, Nat.reduceSub, Nat.reducePow, Nat.reduceMul, Nat.reduceEqDiff, Nat.reduceLT, Nat.reduceLeDiff, Int.reduceToNat, Int.reduceLT, Int.reduceLE, Int.reduceEq, Int.reduceNeg, Int.reduceAdd, Int.reduceSub, Int.reduceMul]
      refine xfc_of (rmost_fc _ v) ?_
      rintro d h' ⟨rfl, e⟩
      refine ⟨⟨[], by rw [e, List.append_nil]⟩, ?_⟩
      rw [e]
      by_cases h1 : mostR v < n
      · rw [if_pos (.inr h1)] at hfit
        have hc : checkF v a n = 1 := by simp [checkF, hfit]
        rw [hc]
        simp (disch := first | omega | (simp only [List.length_append, List.length_cons, List.length_nil]; omega)) only [h1, go_sem, ↓reduceIte, reduceCtorEq, Nat.reduceAdd, Nat.reduceSub, Nat.reducePow, Nat.reduceMul, Nat.reduceEqDiff, Nat.reduceLT, Nat.reduceLeDiff, Int.reduceToNat, Int.reduceLT, Int.reduceLE, Int.reduceEq, Int.reduceNeg, Int.reduceAdd, Int.reduceSub, Int.reduceMul]
        exact FinOk.drop (.inl rfl) (by simp [underL, underD]) ⟨rfl, rfl⟩
      · rw [if_neg (by omega)] at hfit
        have hc : checkF v a n = if frontTo a n.toNat = a then 0 else 5 := by simp [checkF, hfit]
        obtain ⟨g0, g1⟩ := checkF_le hfit
        obtain ⟨k, rfl⟩ := Int.eq_ofNat_of_zero_le g0
        rw [show ((k : Int)).toNat = k from rfl] at hc
        rw [hc]
        simp (disch := first | omega | (simp only [List.length_append, List.length_cons, List.length_nil]; omega)) only [h1, p1, p2, p3, go_sem, ↓reduceIte, reduceCtorEq, Nat.reduceAdd, Nat.reduceSub, Nat.reducePow, Nat.reduceMul, Nat.reduceEqDiff, Nat.reduceLT, Nat.reduceLeDiff, Int.reduceToNat, Int.reduceLT, Int.reduceLE, Int.reduceEq, Int.reduceNeg, Int.reduceAdd, Int.reduceSub, Int.reduceMul]
        refine xfc_of (rfront_fc _ a ha k (by omega)) ?_
        rintro d h' ⟨rfl, e⟩
        refine ⟨⟨[], by rw [e, List.append_nil]⟩, ?_⟩
        rw [e]
        have hfl := frontTo_length a k
        by_cases he : frontTo a k = a
        · rw [he]
          simp (disch := first | omega | (simp only [List.length_append, List.length_cons, List.length_nil]; omega)) only [ha, go_sem, ↓reduceIte, reduceCtorEq, Nat.reduceAdd, Nat.reduceSub, Nat.reducePow, Nat.reduceMul, Nat.reduceEqDiff, Nat.reduceLT, Nat.reduceLeDiff, Int.reduceToNat, Int.reduceLT, Int.reduceLE, Int.reduceEq, Int.reduceNeg, Int.reduceAdd, Int.reduceSub, Int.reduceMul]
          exact FinOk.drop (.inl rfl) (by simp [underL, underD]) ⟨rfl, rfl⟩
        · simp (disch := first | omega | (simp only [List.length_append, List.length_cons, List.length_nil]; omega)) only [he, hfl, ha, go_sem, ↓reduceIte, reduceCtorEq, Nat.reduceAdd, Nat.reduceSub, Nat.reducePow, Nat.reduceMul, Nat.reduceEqDiff, Nat.reduceLT, Nat.reduceLeDiff, Int.reduceToNat, Int.reduceLT, Int.reduceLE, Int.reduceEq, Int.reduceNeg, Int.reduceAdd, Int.reduceSub, Int.reduceMul]
          exact FinOk.drop (.inl rfl) (by simp [underL, underD]) ⟨rfl, rfl⟩

theorem rhas_fc (h : Heap) (p n v : Int) (a b : List UInt8) (ha : a.length = 16) (hb : b.length = 16) : FC Try.prog 26 [prefD p a n, .int .i64 v, .agg (ofBytes b)] h fun d h' => d = .bool (hasF p a n v b) ∧ h' = h := by
  have p1 := pr_take ha [.int .i64 n]
  have p2 := pr_drop ha [.int .i64 n]
  have p3 := pr_len ha (.int .i64 n)
  have p4 := pr_one a n
  have p6 : List.take 17 (ofBytes a ++ [D.int .i64 n]) = ofBytes a ++ [D.int .i64 n] := List.take_of_length_le (by omega)
  have hbl : (ofBytes b).length = 16 := by rw [ofBytes_length, hb]
  have p7 : List.take 16 (ofBytes b) = ofBytes b := List.take_of_length_le (by omega)
  have er := rcheck_fc
  unfold prefD at er
  refine FC.goes cf26 ?_; simp only [c26]; simp only [List.length_cons, List.length_nil, Nat.reduceAdd, Nat.reduceSub, List.replicate_succ, List.replicate_zero, List.cons_append, List.nil_append]
  simp (disch := first | omega | (simp only [List.length_append, List.length_cons, List.length_nil]; omega)) only [c26r0, c26r1, c26r2, prefD, p2, p3, p4, p6, go_sem, ↓reduceIte, reduceCtorEq, Nat.reduceAdd, Nat.reduceSub, Nat.reducePow, Nat.reduceMul, Nat.reduceEqDiff, Nat.reduceLT, Nat.reduceLeDiff, Int.reduceToNat, Int.reduceLT, Int.reduceLE, Int.reduceEq, Int.reduceNeg, Int.reduceAdd, Int.reduceSub, Int.reduceMul]
  refine xfc_of (er _ p n a ha) ?_
  rintro d h' ⟨rfl, e⟩
  refine ⟨⟨[], by rw [e, List.append_nil]⟩, ?_⟩
  rw [e]
  by_cases hc : checkF p a n = 0
  · have hf : fitsF p n = 0 := by
      unfold checkF at hc
      split at hc
      · rename_i h1; exact absurd hc h1
      · rename_i h1; simpa using h1
    obtain ⟨h0, h1⟩ := checkF_le hf
    obtain ⟨k, rfl⟩ := Int.eq_ofNat_of_zero_le h0
    by_cases hv : v = p
    · subst hv
      simp (disch := first | omega | (simp only [List.length_append, List.length_cons, List.length_nil]; omega)) only [hc, p1, p2, p3, p7, hbl, go_sem, ↓reduceIte, reduceCtorEq, Nat.reduceAdd, Nat.reduceSub, Nat.reducePow, Nat.reduceMul, Nat.reduceEqDiff, Nat.reduceLT, Nat.reduceLeDiff, Int.reduceToNat, Int.reduceLT, Int.reduceLE, Int.reduceEq, Int.reduceNeg, Int.reduceAdd, Int.reduceSub, Int.reduceMul]
      refine xfc_of (rfront_fc _ b hb k (by omega)) ?_
      rintro d h' ⟨rfl, e⟩
      refine ⟨⟨[], by rw [e, List.append_nil]⟩, ?_⟩
      rw [e]
      have hfl := frontTo_length b k
      have hh : hasF v a (k : Int) v b = decide (frontTo b k = a) := by simp [hasF, hc]
      rw [hh]
      simp (disch := first | omega | (simp only [List.length_append, List.length_cons, List.length_nil]; omega)) only [hfl, ha, go_sem, ↓reduceIte, reduceCtorEq, Nat.reduceAdd, Nat.reduceSub, Nat.reducePow, Nat.reduceMul, Nat.reduceEqDiff, Nat.reduceLT, Nat.reduceLeDiff, Int.reduceToNat, Int.reduceLT, Int.reduceLE, Int.reduceEq, Int.reduceNeg, Int.reduceAdd, Int.reduceSub, Int.reduceMul]
      exact FinOk.drop (.inl rfl) (by simp [underL, underD]) ⟨rfl, rfl⟩
    · have hh : hasF p a (k : Int) v b = false := by simp [hasF, hv]
      rw [hh]
      simp (disch := first | omega | (simp only [List.length_append, List.length_cons, List.length_nil]; omega)) only [hc, p2, hv, go_sem, ↓reduceIte, reduceCtorEq, Nat.reduceAdd, Nat.reduceSub, Nat.reducePow, Nat.reduceMul, Nat.reduceEqDiff, Nat.reduceLT, Nat.reduceLeDiff, Int.reduceToNat, Int.reduceLT, Int.reduceLE, Int.reduceEq, Int.reduceNeg, Int.reduceAdd, Int.reduceSub, Int.reduceMul]
      exact FinOk.drop (.inl rfl) (by simp [underL, underD]) ⟨rfl, rfl⟩
  · have hh : hasF p a n v b = false := by simp [hasF, hc]
    rw [hh]
    simp (disch := first | omega | (simp only [List.length_append, List.length_cons, List.length_nil]; omega)) only [hc, go_sem, ↓reduceIte, reduceCtorEq, Nat.reduceAdd, Nat.reduceSub, Nat.reducePow, Nat.reduceMul, Nat.reduceEqDiff, Nat.reduceLT, Nat.reduceLeDiff, Int.reduceToNat, Int.reduceLT, Int.reduceLE, Int.reduceEq, Int.reduceNeg, Int.reduceAdd, Int.reduceSub, Int.reduceMul]
    exact FinOk.drop (.inl rfl) (by simp [underL, underD]) ⟨rfl, rfl⟩

/-- The prefix of so many bits. -/
theorem rmake_fc (h : Heap) (v : Int) (a : List UInt8) (ha : a.length = 16) (n : Nat) (hf : fitsF v (n : Int) = 0) : FC Try.prog 28 [.int .i64 v, .agg (ofBytes a), .int .i64 (n : Int)] h fun d h' => d = .tup [prefD v (frontTo a n) (n : Int), .int .i64 0] ∧ h' = h := by
  have hfit := mostR_fits (v := v) (n := (n : Int))
  rw [hf] at hfit
  have hm : ¬ mostR v < 0 := by
    intro h; rw [if_pos h] at hfit; cases hfit
  rw [if_neg hm] at hfit
  have h1 : ¬ mostR v < (n : Int) := by
    intro h; rw [if_pos (.inr h)] at hfit; cases hfit
  obtain ⟨_, hn⟩ := checkF_le hf
  have hal : (ofBytes a).length = 16 := by rw [ofBytes_length, ha]
  have p7 : List.take 16 (ofBytes a) = ofBytes a := List.take_of_length_le (by omega)
  have hfl := frontTo_length a n
  have p1 := pr_take hfl [.int .i64 (n : Int)]
  have p2 := pr_drop hfl [.int .i64 (n : Int)]
  have p3 := pr_len hfl (.int .i64 (n : Int))
  have p4 := pr_one (frontTo a n) (n : Int)
  have hfl2 : (ofBytes (frontTo a n)).length = 16 := by rw [ofBytes_length, hfl]
  refine FC.goes cf28 ?_; simp only [c28]; simp only [List.length_cons, List.length_nil, Nat.reduceAdd, Nat.reduceSub, List.replicate_succ, List.replicate_zero, List.cons_append, List.nil_append]
  simp (disch := first | omega | (simp only [List.length_append, List.length_cons, List.length_nil]; omega)) only [c28r0, c28r1, c28r2, c28r3, c28r4, c28r5, go_sem, ↓reduceIte, reduceCtorEq, Nat.reduceAdd, Nat.reduceSub, Nat.reducePow, Nat.reduceMul, Nat.reduceEqDiff, Nat.reduceLT, Nat.reduceLeDiff, Int.reduceToNat, Int.reduceLT, Int.reduceLE, Int.reduceEq, Int.reduceNeg, Int.reduceAdd, Int.reduceSub, Int.reduceMul]
  refine gfc_of (rmost_fc _ v) ?_
  rintro d h' ⟨rfl, e⟩
  rw [e]
  have h0 : ¬ (n : Int) < 0 := by omega
  simp (disch := first | omega | (simp only [List.length_append, List.length_cons, List.length_nil]; omega)) only [hm, h0, go_sem, ↓reduceIte, reduceCtorEq, Nat.reduceAdd, Nat.reduceSub, Nat.reducePow, Nat.reduceMul, Nat.reduceEqDiff, Nat.reduceLT, Nat.reduceLeDiff, Int.reduceToNat, Int.reduceLT, Int.reduceLE, Int.reduceEq, Int.reduceNeg, Int.reduceAdd, Int.reduceSub, Int.reduceMul]
  refine gfc_of (rmost_fc _ v) ?_
  rintro d h' ⟨rfl, e⟩
  rw [e]
  simp (disch := first | omega | (simp only [List.length_append, List.length_cons, List.length_nil]; omega)) only [h1, p7, hal, go_sem, ↓reduceIte, reduceCtorEq, Nat.reduceAdd, Nat.reduceSub, Nat.reducePow, Nat.reduceMul, Nat.reduceEqDiff, Nat.reduceLT, Nat.reduceLeDiff, Int.reduceToNat, Int.reduceLT, Int.reduceLE, Int.reduceEq, Int.reduceNeg, Int.reduceAdd, Int.reduceSub, Int.reduceMul]
  refine gfc_of (rfront_fc _ a ha n (by omega)) ?_
  rintro d h' ⟨rfl, e⟩
  rw [e]
  have hsp : splice [D.int .i64 v, .int .u8 0, .int .u8 0, .int .u8 0, .int .u8 0, .int .u8 0, .int .u8 0, .int .u8 0, .int .u8 0, .int .u8 0, .int .u8 0, .int .u8 0, .int .u8 0, .int .u8 0, .int .u8 0, .int .u8 0, .int .u8 0, .int .i64 0] 1 (ofBytes (frontTo a n)) = .int .i64 v :: (ofBytes (frontTo a n) ++ [.int .i64 0]) := by
    rw [splice_eq _ _ _ (by rw [hfl2]; simp), hfl2]; rfl
  have hst : (ofBytes (frontTo a n) ++ [D.int .i64 0]).set 16 (.int .i64 (n : Int)) = ofBytes (frontTo a n) ++ [.int .i64 (n : Int)] := by
    rw [List.set_append_right _ _ (by omega), hfl2]; rfl
  have p3' := pr_len hfl (.int .i64 0)
  have p6 : List.take 17 (ofBytes (frontTo a n) ++ [D.int .i64 (n : Int)]) = ofBytes (frontTo a n) ++ [D.int .i64 (n : Int)] := List.take_of_length_le (by omega)
  simp (disch := first | omega | (simp only [List.length_append, List.length_cons, List.length_nil]; omega)) only [fillD, splice0, hfl2, hsp, hst, p4, p3, p3', p6, go_sem, ↓reduceIte, reduceCtorEq, Nat.reduceAdd, Nat.reduceSub, Nat.reducePow, Nat.reduceMul, Nat.reduceEqDiff, Nat.reduceLT, Nat.reduceLeDiff, Int.reduceToNat, Int.reduceLT, Int.reduceLE, Int.reduceEq, Int.reduceNeg, Int.reduceAdd, Int.reduceSub, Int.reduceMul]
  exact FinOk.drop (.inl rfl) (by simp [underL, underD, under_app, under_bytes]) ⟨rfl, rfl⟩
end Go.Proofs

