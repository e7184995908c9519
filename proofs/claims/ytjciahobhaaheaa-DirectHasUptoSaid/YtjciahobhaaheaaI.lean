/-
  Own work. The walks of the document's All, And, Or.
-/
import Derived.Test.YtjciahobhaaheaaH
namespace Go.Proofs
open Go Go.Ytjciahobhaaheaa
set_option linter.unusedVariables false
set_option linter.unusedSimpArgs false
set_option maxRecDepth 10000

/-! ### weighbridge/weighbridgeref18.All, params 1 -/
def c24r0 : List AStm := [.op (some 2) none (.mv (.c .nils))]
def c24r1 : List AStm := [.op (some 6) none (.mv (.t 0)),
    .call (some 7) none (.c (.fn (.func 22) [] [])) [(.t 6)],
    .op (some 3) none (.mv (.t 7))]
def c24r2 : List AStm := [.op (some 4) none (.mv (.c (.int .i64 0)))]
def c24r3 : List AStm := [.op (some 8) none (.mv (.t 4)),
    .op (some 9) none (.mv (.t 3)),
    .op (some 10) none (.len false (.t 9)),
    .op (some 11) none (.bin .lss (.t 8) (.t 10))]
def c24r4 : List AStm := [.op (some 5) none (.mv (.c (.int .i64 0)))]
def c24r5 : List AStm := [.op (some 14) none (.mv (.t 5)),
    .op (some 15) none (.bin .lss (.t 14) (.c (.int .i64 64))),
    .op (some 16) none (.mv (.t 15)),
    .op (some 17) (some (16, true)) (.mv (.t 4)),
    .op (some 18) (some (16, true)) (.bin .mul (.c (.int .i64 64)) (.t 17)),
    .op (some 19) (some (16, true)) (.mv (.t 5)),
    .op (some 20) (some (16, true)) (.bin .add (.t 18) (.t 19)),
    .op (some 21) (some (16, true)) (.mv (.t 0)),
    .op (some 22) (some (16, true)) (.bin .lss (.t 20) (.t 21)),
    .op (some 23) none (.pick (.t 16) (.t 22) (.c (.bool false)))]
def c24r6 : List AStm := [.op (some 26) none (.mv (.t 3)),
    .op (some 27) none (.mv (.t 4)),
    .op (some 28) none (.mv (.t 3)),
    .op (some 29) none (.mv (.t 4)),
    .op (some 30) none (.ixs 1 (.t 28) (.t 29)),
    .op (some 31) none (.load none (.t 30)),
    .op (some 32) none (.bin .mul (.t 31) (.c (.int .u64 2))),
    .op (some 33) none (.bin .add (.t 32) (.c (.int .u64 1))),
    .op (some 34) none (.ixs 1 (.t 26) (.t 27)),
    .op none none (.store 1 (.t 34) (.t 33))]
def c24r7 : List AStm := [.op (some 24) none (.mv (.t 5)),
    .op (some 25) none (.bin .add (.t 24) (.c (.int .i64 1))),
    .op (some 5) none (.mv (.t 25))]
def c24l8 : AC := .seq (.seq (.reg c24r5) (.cond (.t 23) (.skip) (.exit 2))) (.seq (.block 3 (.reg c24r6)) (.reg c24r7))
def c24r9 : List AStm := [.op (some 12) none (.mv (.t 4)),
    .op (some 13) none (.bin .add (.t 12) (.c (.int .i64 1))),
    .op (some 4) none (.mv (.t 13))]
def c24l10 : AC := .seq (.seq (.reg c24r3) (.cond (.t 11) (.skip) (.exit 0))) (.seq (.block 1 (.seq (.reg c24r4) (.block 2 (.loop c24l8)))) (.reg c24r9))
def c24r11 : List AStm := [.op (some 35) none (.mv (.t 3)),
    .op (some 2) none (.mv (.t 35))]
def c24 : CF := ⟨.seq (.reg c24r0) (.seq (.reg c24r1) (.seq (.seq (.reg c24r2) (.block 0 (.loop c24l10))) (.seq (.reg c24r11) (.ret)))), [.tmp 2], 36⟩
theorem cf24 : cfun Try.prog 24 = some c24 := by kernel_rfl

/-! ### weighbridge/weighbridgeref18.And, params 1 -/
def c34r0 : List AStm := [.op (some 2) none (.mv (.c .nils))]
def c34r1 : List AStm := [.op (some 9) none (.mv (.t 0)),
    .op (some 10) none (.len false (.t 9)),
    .op (some 11) none (.bin .eql (.t 10) (.c (.int .i64 0)))]
def c34r2 : List AStm := [.op (some 2) none (.mv (.c .nils))]
def c34r3 : List AStm := [.op (some 12) none (.mv (.t 0)),
    .op (some 13) none (.ixs 1 (.t 12) (.c (.int .i64 0))),
    .op (some 14) none (.load none (.t 13)),
    .op (some 15) none (.len false (.t 14)),
    .op (some 3) none (.mv (.t 15))]
def c34r4 : List AStm := [.op (some 4) none (.mv (.c (.int .i64 0)))]
def c34r5 : List AStm := [.op (some 16) none (.mv (.t 4)),
    .op (some 17) none (.mv (.t 0)),
    .op (some 18) none (.len false (.t 17)),
    .op (some 19) none (.bin .lss (.t 16) (.t 18))]
def c34r6 : List AStm := [.op (some 22) none (.mv (.t 3)),
    .op (some 23) none (.mv (.t 0)),
    .op (some 24) none (.mv (.t 4)),
    .op (some 25) none (.ixs 1 (.t 23) (.t 24)),
    .op (some 26) none (.load none (.t 25)),
    .op (some 27) none (.len false (.t 26)),
    .op (some 28) none (.mnx false (.t 22) (.t 27)),
    .op (some 3) none (.mv (.t 28))]
def c34r7 : List AStm := [.op (some 20) none (.mv (.t 4)),
    .op (some 21) none (.bin .add (.t 20) (.c (.int .i64 1))),
    .op (some 4) none (.mv (.t 21))]
def c34l8 : AC := .seq (.seq (.reg c34r5) (.cond (.t 19) (.skip) (.exit 0))) (.seq (.block 1 (.reg c34r6)) (.reg c34r7))
def c34r9 : List AStm := [.op (some 29) none (.mv (.t 3)),
    .op (some 30) none (.bin .mul (.c (.int .i64 64)) (.t 29)),
    .call (some 31) none (.c (.fn (.func 22) [] [])) [(.t 30)],
    .op (some 5) none (.mv (.t 31))]
def c34r10 : List AStm := [.op (some 6) none (.mv (.c (.int .i64 0)))]
def c34r11 : List AStm := [.op (some 32) none (.mv (.t 6)),
    .op (some 33) none (.mv (.t 3)),
    .op (some 34) none (.bin .mul (.c (.int .i64 64)) (.t 33)),
    .op (some 35) none (.bin .lss (.t 32) (.t 34))]
def c34r12 : List AStm := [.op (some 7) none (.mv (.c (.bool true)))]
def c34r13 : List AStm := [.op (some 8) none (.mv (.c (.int .i64 0)))]
def c34r14 : List AStm := [.op (some 38) none (.mv (.t 8)),
    .op (some 39) none (.mv (.t 0)),
    .op (some 40) none (.len false (.t 39)),
    .op (some 41) none (.bin .lss (.t 38) (.t 40))]
def c34r15 : List AStm := [.op (some 44) none (.mv (.t 7)),
    .op (some 45) none (.mv (.t 44)),
    .op (some 46) (some (45, true)) (.mv (.t 0)),
    .op (some 47) (some (45, true)) (.mv (.t 8)),
    .op (some 48) (some (45, true)) (.ixs 1 (.t 46) (.t 47)),
    .op (some 49) (some (45, true)) (.load none (.t 48)),
    .op (some 50) (some (45, true)) (.mv (.t 6)),
    .call (some 51) (some (45, true)) (.c (.fn (.func 26) [] [])) [(.t 49), (.t 50)],
    .op (some 52) none (.pick (.t 45) (.t 51) (.c (.bool false))),
    .op (some 7) none (.mv (.t 52))]
def c34r16 : List AStm := [.op (some 42) none (.mv (.t 8)),
    .op (some 43) none (.bin .add (.t 42) (.c (.int .i64 1))),
    .op (some 8) none (.mv (.t 43))]
def c34l17 : AC := .seq (.seq (.reg c34r14) (.cond (.t 41) (.skip) (.exit 4))) (.seq (.block 5 (.reg c34r15)) (.reg c34r16))
def c34r18 : List AStm := [.op (some 53) none (.mv (.t 7))]
def c34r19 : List AStm := [.op (some 54) none (.mv (.t 5)),
    .op (some 55) none (.mv (.t 6)),
    .op (some 56) none (.bin .quo (.t 55) (.c (.int .i64 64))),
    .op (some 57) none (.mv (.t 5)),
    .op (some 58) none (.mv (.t 6)),
    .op (some 59) none (.bin .quo (.t 58) (.c (.int .i64 64))),
    .op (some 60) none (.ixs 1 (.t 57) (.t 59)),
    .op (some 61) none (.load none (.t 60)),
    .op (some 62) none (.mv (.t 6)),
    .op (some 63) none (.bin .rem (.t 62) (.c (.int .i64 64))),
    .call (some 64) none (.c (.fn (.func 44) [] [])) [(.t 61), (.t 63), (.c (.int .i64 1)), (.c (.int .u64 1))],
    .op (some 65) none (.ixs 1 (.t 54) (.t 56)),
    .op none none (.store 1 (.t 65) (.t 64))]
def c34r20 : List AStm := [.op (some 36) none (.mv (.t 6)),
    .op (some 37) none (.bin .add (.t 36) (.c (.int .i64 1))),
    .op (some 6) none (.mv (.t 37))]
def c34l21 : AC := .seq (.seq (.reg c34r11) (.cond (.t 35) (.skip) (.exit 2))) (.seq (.block 3 (.seq (.reg c34r12) (.seq (.seq (.reg c34r13) (.block 4 (.loop c34l17))) (.seq (.reg c34r18) (.cond (.t 53) (.reg c34r19) (.skip)))))) (.reg c34r20))
def c34r22 : List AStm := [.op (some 66) none (.mv (.t 5)),
    .op (some 2) none (.mv (.t 66))]
def c34 : CF := ⟨.seq (.reg c34r0) (.seq (.seq (.reg c34r1) (.cond (.t 11) (.seq (.reg c34r2) (.ret)) (.skip))) (.seq (.reg c34r3) (.seq (.seq (.reg c34r4) (.block 0 (.loop c34l8))) (.seq (.reg c34r9) (.seq (.seq (.reg c34r10) (.block 2 (.loop c34l21))) (.seq (.reg c34r22) (.ret))))))), [.tmp 2], 67⟩
theorem cf34 : cfun Try.prog 34 = some c34 := by kernel_rfl

/-! ### weighbridge/weighbridgeref18.Or, params 1 -/
def c36r0 : List AStm := [.op (some 2) none (.mv (.c .nils))]
def c36r1 : List AStm := [.op (some 3) none (.mv (.c (.int .i64 0)))]
def c36r2 : List AStm := [.op (some 4) none (.mv (.c (.int .i64 0)))]
def c36r3 : List AStm := [.op (some 8) none (.mv (.t 4)),
    .op (some 9) none (.mv (.t 0)),
    .op (some 10) none (.len false (.t 9)),
    .op (some 11) none (.bin .lss (.t 8) (.t 10))]
def c36r4 : List AStm := [.op (some 14) none (.mv (.t 3)),
    .op (some 15) none (.mv (.t 0)),
    .op (some 16) none (.mv (.t 4)),
    .op (some 17) none (.ixs 1 (.t 15) (.t 16)),
    .op (some 18) none (.load none (.t 17)),
    .op (some 19) none (.len false (.t 18)),
    .op (some 20) none (.mnx true (.t 14) (.t 19)),
    .op (some 3) none (.mv (.t 20))]
def c36r5 : List AStm := [.op (some 12) none (.mv (.t 4)),
    .op (some 13) none (.bin .add (.t 12) (.c (.int .i64 1))),
    .op (some 4) none (.mv (.t 13))]
def c36l6 : AC := .seq (.seq (.reg c36r3) (.cond (.t 11) (.skip) (.exit 0))) (.seq (.block 1 (.reg c36r4)) (.reg c36r5))
def c36r7 : List AStm := [.op (some 21) none (.mv (.t 3)),
    .op (some 22) none (.bin .mul (.c (.int .i64 64)) (.t 21)),
    .call (some 23) none (.c (.fn (.func 22) [] [])) [(.t 22)],
    .op (some 5) none (.mv (.t 23))]
def c36r8 : List AStm := [.op (some 6) none (.mv (.c (.int .i64 0)))]
def c36r9 : List AStm := [.op (some 24) none (.mv (.t 6)),
    .op (some 25) none (.mv (.t 3)),
    .op (some 26) none (.bin .mul (.c (.int .i64 64)) (.t 25)),
    .op (some 27) none (.bin .lss (.t 24) (.t 26))]
def c36r10 : List AStm := [.op (some 7) none (.mv (.c (.int .i64 0)))]
def c36r11 : List AStm := [.op (some 30) none (.mv (.t 7)),
    .op (some 31) none (.mv (.t 0)),
    .op (some 32) none (.len false (.t 31)),
    .op (some 33) none (.bin .lss (.t 30) (.t 32))]
def c36r12 : List AStm := [.op (some 36) none (.mv (.t 0)),
    .op (some 37) none (.mv (.t 7)),
    .op (some 38) none (.ixs 1 (.t 36) (.t 37)),
    .op (some 39) none (.load none (.t 38)),
    .op (some 40) none (.mv (.t 6)),
    .call (some 41) none (.c (.fn (.func 26) [] [])) [(.t 39), (.t 40)]]
def c36r13 : List AStm := [.op (some 42) none (.mv (.t 5)),
    .op (some 43) none (.mv (.t 6)),
    .op (some 44) none (.bin .quo (.t 43) (.c (.int .i64 64))),
    .op (some 45) none (.mv (.t 5)),
    .op (some 46) none (.mv (.t 6)),
    .op (some 47) none (.bin .quo (.t 46) (.c (.int .i64 64))),
    .op (some 48) none (.ixs 1 (.t 45) (.t 47)),
    .op (some 49) none (.load none (.t 48)),
    .op (some 50) none (.mv (.t 6)),
    .op (some 51) none (.bin .rem (.t 50) (.c (.int .i64 64))),
    .call (some 52) none (.c (.fn (.func 44) [] [])) [(.t 49), (.t 51), (.c (.int .i64 1)), (.c (.int .u64 1))],
    .op (some 53) none (.ixs 1 (.t 42) (.t 44)),
    .op none none (.store 1 (.t 53) (.t 52))]
def c36r14 : List AStm := [.op (some 34) none (.mv (.t 7)),
    .op (some 35) none (.bin .add (.t 34) (.c (.int .i64 1))),
    .op (some 7) none (.mv (.t 35))]
def c36l15 : AC := .seq (.seq (.reg c36r11) (.cond (.t 33) (.skip) (.exit 4))) (.seq (.block 5 (.seq (.reg c36r12) (.cond (.t 41) (.reg c36r13) (.skip)))) (.reg c36r14))
def c36r16 : List AStm := [.op (some 28) none (.mv (.t 6)),
    .op (some 29) none (.bin .add (.t 28) (.c (.int .i64 1))),
    .op (some 6) none (.mv (.t 29))]
def c36l17 : AC := .seq (.seq (.reg c36r9) (.cond (.t 27) (.skip) (.exit 2))) (.seq (.block 3 (.seq (.reg c36r10) (.block 4 (.loop c36l15)))) (.reg c36r16))
def c36r18 : List AStm := [.op (some 54) none (.mv (.t 5)),
    .op (some 2) none (.mv (.t 54))]
def c36 : CF := ⟨.seq (.reg c36r0) (.seq (.reg c36r1) (.seq (.seq (.reg c36r2) (.block 0 (.loop c36l6))) (.seq (.reg c36r7) (.seq (.seq (.reg c36r8) (.block 2 (.loop c36l17))) (.seq (.reg c36r18) (.ret)))))), [.tmp 2], 55⟩
theorem cf36 : cfun Try.prog 36 = some c36 := by kernel_rfl



theorem newR_of {m : Nat} (h : m ≤ 1024) : newR ((64 * m : Nat) : Int) = List.replicate m 0 := by
  unfold newR
  rw [if_neg (by omega), show (((64 * m : Nat) : Int).toNat + 63) / 64 = m by omega]
theorem newR_words (n : Int) : Words (newR n) := newR_lt n

theorem allRef_fc (h : Heap) (n : Int) (h0 : -9223372036854775808 ≤ n) (h1 : n < 9223372036854775808) :
    FC Try.prog 24 [.int .i64 n] h fun d h' => ∃ L, h' = h ++ L ∧ SlOf h' 1 d (u64s (allR n)) (allR n).length := by
  refine FC.goes cf24 ?_; simp only [c24]; simp only [List.length_cons, List.length_nil, Nat.reduceAdd, Nat.reduceSub, List.replicate_succ, List.replicate_zero, List.cons_append, List.nil_append]
  simp (disch := first | omega | (simp only [List.length_append, List.length_cons, List.length_nil]; omega)) only [c24r0, c24r1, c24r2, c24r3, c24r4, c24r5, c24r6, c24r7, c24l8, c24r9, c24l10, c24r11, go_sem, ↓reduceIte, reduceCtorEq, Nat.reduceAdd, Nat.reduceSub, Nat.reducePow, Nat.reduceMul, Nat.reduceEqDiff, Nat.reduceLT, Nat.reduceLeDiff, Int.reduceToNat, Int.reduceLT, Int.reduceLE, Int.reduceEq, Int.reduceNeg, Int.reduceAdd, Int.reduceSub, Int.reduceMul]
  refine gfc_of (newRef_fc _ n h0 h1) ?_
  intro d h' hn
  obtain ⟨H, rfl, ho⟩ := OutSt.of_new hn
  have hq := newR_len n
  have hpos : 0 < (newR n).length → ∃ m : Nat, n = (m : Int) ∧ (newR n).length = (m + 63) / 64 ∧ newR n = List.replicate ((m + 63) / 64) 0 := by
    intro h
    unfold newR at h ⊢
    split at h
    · simp at h
    · rename_i hc
      rw [if_neg hc]
      obtain ⟨m, rfl⟩ := Int.eq_ofNat_of_zero_le (by omega : 0 ≤ n)
      exact ⟨m, rfl, by rw [List.length_replicate]; rfl, rfl⟩
  have hz : newR n = allTo n.toNat (newR n).length 0 := by
    unfold newR
    split
    · rfl
    · simp [allTo]
  have hl := (ho.sl)
  generalize hqq : (newR n).length = q at *
  rw [hz] at ho
  simp (disch := first | omega | (simp only [List.length_append, List.length_cons, List.length_nil]; omega)) only [go_sem, ↓reduceIte, reduceCtorEq, Nat.reduceAdd, Nat.reduceSub, Nat.reducePow, Nat.reduceMul, Nat.reduceEqDiff, Nat.reduceLT, Nat.reduceLeDiff, Int.reduceToNat, Int.reduceLT, Int.reduceLE, Int.reduceEq, Int.reduceNeg, Int.reduceAdd, Int.reduceSub, Int.reduceMul]
  refine loop_to q (fun k st => ∃ (H : Heap), OutSt h (allTo n.toNat q k) d H ∧ ∃ (j : Nat → D), st = ⟨(.int .i64 n :: j 1 :: j 2 :: d :: .int .i64 (k : Int) :: j 5 :: j 6 :: j 7 :: j 8 :: j 9 :: j 10 :: j 11 :: j 12 :: j 13 :: j 14 :: j 15 :: j 16 :: j 17 :: j 18 :: j 19 :: j 20 :: j 21 :: j 22 :: j 23 :: j 24 :: j 25 :: j 26 :: j 27 :: j 28 :: j 29 :: j 30 :: j 31 :: j 32 :: j 33 :: j 34 :: j 35 :: []), h ++ H⟩) ⟨H, ho, junk rfl⟩ ?_
  rintro k st hk ⟨H, ho, j, rfl⟩
  have s1 := ho.sl
  have hal := allTo_length (n := n.toNat) hk
  rw [hal] at s1
  by_cases hkq : k < q
  · have hkq' : (k : Int) < q := by omega
    obtain ⟨m, rfl, hqm, -⟩ := hpos (by omega)
    have e0 : ((m : Int)).toNat = m := rfl
    have hal2 := allTo_length (n := m) hk
    rw [e0] at *
    simp (disch := first | omega | (simp only [List.length_append, List.length_cons, List.length_nil]; omega)) only [c24r0, c24r1, c24r2, c24r3, c24r4, c24r5, c24r6, c24r7, c24l8, c24r9, c24l10, c24r11, s1.lend, s1.sort, hkq', go_sem, ↓reduceIte, reduceCtorEq, Nat.reduceAdd, Nat.reduceSub, Nat.reducePow, Nat.reduceMul, Nat.reduceEqDiff, Nat.reduceLT, Nat.reduceLeDiff, Int.reduceToNat, Int.reduceLT, Int.reduceLE, Int.reduceEq, Int.reduceNeg, Int.reduceAdd, Int.reduceSub, Int.reduceMul]
    have ha0 : allTo m q k = (allTo m q k).set k (2 ^ 0 - 1) := by
      refine list_ext_getD (by simp) fun i hi => ?_
      rw [set_getD]
      split
      · rename_i hc
        obtain ⟨rfl, _⟩ := hc
        rw [allTo, List.getD_eq_getElem?_getD, List.getElem?_append_right (by simp), List.getElem?_replicate]
        rw [if_pos (by simp; omega)]; rfl
      · rfl
    refine loop_to (min 64 (m - 64 * k)) (fun i st => ∃ (H : Heap), OutSt h ((allTo m q k).set k (2 ^ i - 1)) d H ∧ ∃ (j : Nat → D), st = ⟨(.int .i64 (m : Int) :: j 1 :: j 2 :: d :: .int .i64 (k : Int) :: .int .i64 (i : Int) :: j 6 :: j 7 :: j 8 :: j 9 :: j 10 :: j 11 :: j 12 :: j 13 :: j 14 :: j 15 :: j 16 :: j 17 :: j 18 :: j 19 :: j 20 :: j 21 :: j 22 :: j 23 :: j 24 :: j 25 :: j 26 :: j 27 :: j 28 :: j 29 :: j 30 :: j 31 :: j 32 :: j 33 :: j 34 :: j 35 :: []), h ++ H⟩) ⟨H, by rw [← ha0]; exact ho, junk rfl⟩ ?_
    rintro i st hi ⟨H, ho, j, rfl⟩
    have e1 : IntKind.i64.wrap (64 * (k : Int)) = ((64 * k : Nat) : Int) := by rw [w_i64 (by omega) (by omega)]; omega
    have e2 : IntKind.i64.wrap (((64 * k : Nat) : Int) + (i : Int)) = ((64 * k + i : Nat) : Int) := by rw [w_i64 (by omega) (by omega)]; omega
    by_cases hlast : i < 64 ∧ 64 * k + i < m
    · have hi64 : (i : Int) < 64 := by omega
      have him : ((64 * k + i : Nat) : Int) < m := by omega
      obtain ⟨p, cs, w1, w2, w3, w4⟩ := ho.at (i := k) (by rw [List.length_set]; omega)
      rw [set_getD, if_pos ⟨rfl, by omega⟩] at w3
      obtain ⟨H', w5, w6⟩ := w4 (2 ^ (i + 1) - 1)
      rw [List.set_set] at w6
      have hp : 2 ^ i < 9223372036854775808 * 2 := Nat.lt_of_lt_of_eq (Nat.pow_lt_pow_right (n := 64) (by omega) (by omega)) (by rfl)
      have hp2 : 2 ^ (i + 1) ≤ 18446744073709551616 := Nat.le_trans (Nat.pow_le_pow_right (n := 2) (by omega) (by omega : i + 1 ≤ 64)) (by decide)
      have hp1 : 0 < 2 ^ i := Nat.pos_of_ne_zero (by simp)
      rw [Nat.pow_succ] at w5 w6 hp2
      generalize hx : 2 ^ i = x at *
      have e3 : IntKind.u64.wrap (((x - 1 : Nat) : Int) * 2) = (((x - 1) * 2 : Nat) : Int) := by rw [w_u64 (by omega) (by omega)]; omega
      have e4 : IntKind.u64.wrap ((((x - 1) * 2 : Nat) : Int) + 1) = ((x * 2 - 1 : Nat) : Int) := by rw [w_u64 (by omega) (by omega)]; omega
      have e5 : IntKind.i64.wrap ((i : Int) + 1) = ((i + 1 : Nat) : Int) := by rw [w_i64 (by omega) (by omega)]; omega
      simp (disch := first | omega | (simp only [List.length_append, List.length_cons, List.length_nil]; omega)) only [c24r0, c24r1, c24r2, c24r3, c24r4, c24r5, c24r6, c24r7, c24l8, c24r9, c24l10, c24r11, hi64, e1, e2, him, w1, w2, w3, e3, e4, w5, e5, go_sem, ↓reduceIte, reduceCtorEq, Nat.reduceAdd, Nat.reduceSub, Nat.reducePow, Nat.reduceMul, Nat.reduceEqDiff, Nat.reduceLT, Nat.reduceLeDiff, Int.reduceToNat, Int.reduceLT, Int.reduceLE, Int.reduceEq, Int.reduceNeg, Int.reduceAdd, Int.reduceSub, Int.reduceMul]
      refine ⟨by omega, H', by rw [Nat.pow_succ, hx]; exact w6, junk rfl⟩
    · have hfin : 2 ^ i - 1 = allW m k := by
        unfold allW
        by_cases hc : m - 64 * k < 64
        · rw [if_pos hc, show i = m - 64 * k by omega]
        · rw [if_neg hc, show i = 64 by omega]
      rw [hfin, allTo_set hkq] at ho
      have e5 : IntKind.i64.wrap ((k : Int) + 1) = ((k + 1 : Nat) : Int) := by rw [w_i64 (by omega) (by omega)]; omega
      by_cases hi64 : (i : Int) < 64
      · have him : ¬ ((64 * k + i : Nat) : Int) < m := by omega
        simp (disch := first | omega | (simp only [List.length_append, List.length_cons, List.length_nil]; omega)) only [c24r0, c24r1, c24r2, c24r3, c24r4, c24r5, c24r6, c24r7, c24l8, c24r9, c24l10, c24r11, hi64, e1, e2, him, e5, go_sem, ↓reduceIte, reduceCtorEq, Nat.reduceAdd, Nat.reduceSub, Nat.reducePow, Nat.reduceMul, Nat.reduceEqDiff, Nat.reduceLT, Nat.reduceLeDiff, Int.reduceToNat, Int.reduceLT, Int.reduceLE, Int.reduceEq, Int.reduceNeg, Int.reduceAdd, Int.reduceSub, Int.reduceMul]
        exact ⟨hkq, H, ho, junk rfl⟩
      · simp (disch := first | omega | (simp only [List.length_append, List.length_cons, List.length_nil]; omega)) only [c24r0, c24r1, c24r2, c24r3, c24r4, c24r5, c24r6, c24r7, c24l8, c24r9, c24l10, c24r11, hi64, e5, go_sem, ↓reduceIte, reduceCtorEq, Nat.reduceAdd, Nat.reduceSub, Nat.reducePow, Nat.reduceMul, Nat.reduceEqDiff, Nat.reduceLT, Nat.reduceLeDiff, Int.reduceToNat, Int.reduceLT, Int.reduceLE, Int.reduceEq, Int.reduceNeg, Int.reduceAdd, Int.reduceSub, Int.reduceMul]
        exact ⟨hkq, H, ho, junk rfl⟩
  · have hkq' : ¬ (k : Int) < q := by omega
    have : k = q := by omega
    subst this
    simp (disch := first | omega | (simp only [List.length_append, List.length_cons, List.length_nil]; omega)) only [c24r0, c24r1, c24r2, c24r3, c24r4, c24r5, c24r6, c24r7, c24l8, c24r9, c24l10, c24r11, s1.lend, s1.sort, hkq', go_sem, ↓reduceIte, reduceCtorEq, Nat.reduceAdd, Nat.reduceSub, Nat.reducePow, Nat.reduceMul, Nat.reduceEqDiff, Nat.reduceLT, Nat.reduceLeDiff, Int.reduceToNat, Int.reduceLT, Int.reduceLE, Int.reduceEq, Int.reduceNeg, Int.reduceAdd, Int.reduceSub, Int.reduceMul]
    have : allTo n.toNat k k = allR n := by simp [allTo, allR, hqq]
    rw [this] at ho
    exact ho.fin

theorem getD_mem {rs : List (List Nat)} {k : Nat} (h : k < rs.length) : rs.getD k [] ∈ rs := by
  rw [List.getD_eq_getElem?_getD, List.getElem?_eq_getElem h]; exact List.getElem_mem h
theorem take_snoc {rs : List (List Nat)} {k : Nat} (h : k < rs.length) : rs.take (k + 1) = rs.take k ++ [rs.getD k []] := by
  rw [List.take_add_one, List.getD_eq_getElem?_getD, List.getElem?_eq_getElem h]; rfl
theorem hasR_nat (ws : List Nat) (k : Nat) : hasR ws (k : Int) = hasB ws k := by
  have e2 : ((k : Int)).toNat = k := rfl
  rw [hasR, insR, e2]
  by_cases h : k / 64 < ws.length
  · simp [h]
  · rw [hasB_out (by omega)]; simp

/-- The row in which just those bits below k are set of which f is true. -/
def putTo (f : Nat → Bool) (n : Nat) : Nat → List Nat
  | 0 => List.replicate n 0
  | k + 1 => if f k then setR (putTo f n k) (k : Int) else putTo f n k
theorem putTo_length (f : Nat → Bool) (n : Nat) : ∀ k, (putTo f n k).length = n
  | 0 => by simp [putTo]
  | k + 1 => by
    rw [putTo]
    split
    · rw [setR_length, putTo_length f n k]
    · exact putTo_length f n k
theorem putTo_words (f : Nat → Bool) (n : Nat) : ∀ k, Words (putTo f n k)
  | 0 => by
    intro w hw
    rw [(List.mem_replicate.1 hw).2]; omega
  | k + 1 => by
    rw [putTo]
    split
    · exact setR_lt (putTo_words f n k) _
    · exact putTo_words f n k
theorem putTo_has (f : Nat → Bool) (n : Nat) : ∀ k, k ≤ 64 * n → ∀ j, hasB (putTo f n k) j = (decide (j < k) && f j)
  | 0, _, j => by
    have : (putTo f n 0).getD (j / 64) 0 = 0 := by
      rw [putTo, List.getD_eq_getElem?_getD, List.getElem?_replicate]; split <;> rfl
    rw [hasB_test, this]; simp
  | k + 1, h, j => by
    have ih := putTo_has f n k (by omega) j
    rw [putTo]
    by_cases hf : f k = true
    · rw [if_pos hf, setR_has (by rw [putTo_length]; omega), ih]
      by_cases e : j = k
      · subst e; simp [hf]
      · have : (j < k + 1) ↔ j < k := by omega
        simp [e, this]
    · rw [if_neg hf, ih]
      by_cases e : j = k
      · subst e
        have : f j = false := by simpa using hf
        simp [this]
      · have : (j < k + 1) ↔ j < k := by omega
        simp [this]
theorem putTo_eq {f : Nat → Bool} {n : Nat} {ws : List Nat} (hl : ws.length = n) (hw : Words ws) (h : ∀ j, j < 64 * n → hasB ws j = f j) : putTo f n (64 * n) = ws := by
  refine row_ext (by rw [putTo_length, hl]) (putTo_words _ _ _) hw fun j hj => ?_
  rw [putTo_length] at hj
  rw [putTo_has _ _ _ (Nat.le_refl _), h j hj]
  simp [hj]

theorem andRef_fc (h : Heap) (rows : D) (rs : List (List Nat)) (hr : RowsOf h rows rs) (hlen : rs.length ≤ 1048576) (hl : ∀ x ∈ rs, x.length ≤ 1000) (hw : ∀ x ∈ rs, Words x) :
    FC Try.prog 34 [rows] h fun d h' => ∃ L, h' = h ++ L ∧ SlOf h' 1 d (u64s (andR rs)) (andR rs).length := by
  have hr0 := hr
  obtain ⟨ds, s, hds⟩ := hr
  refine FC.goes cf34 ?_; simp only [c34]; simp only [List.length_cons, List.length_nil, Nat.reduceAdd, Nat.reduceSub, List.replicate_succ, List.replicate_zero, List.cons_append, List.nil_append]
  by_cases hrs : rs = []
  · subst hrs
    simp (disch := first | omega | (simp only [List.length_append, List.length_cons, List.length_nil]; omega)) only [c34r0, c34r1, c34r2, c34r3, c34r4, c34r5, c34r6, c34r7, c34l8, c34r9, c34r10, c34r11, c34r12, c34r13, c34r14, c34r15, c34r16, c34l17, c34r18, c34r19, c34r20, c34l21, c34r22, s.lend, s.sort, go_sem, ↓reduceIte, reduceCtorEq, Nat.reduceAdd, Nat.reduceSub, Nat.reducePow, Nat.reduceMul, Nat.reduceEqDiff, Nat.reduceLT, Nat.reduceLeDiff, Int.reduceToNat, Int.reduceLT, Int.reduceLE, Int.reduceEq, Int.reduceNeg, Int.reduceAdd, Int.reduceSub, Int.reduceMul]
    exact FinOk.all ⟨[], (List.append_nil _).symm, nils_of _ _⟩
  · have hpos : 0 < rs.length := List.length_pos_iff.2 hrs
    have hn0 : ¬ ((rs.length : Nat) : Int) = 0 := by omega
    obtain ⟨p, cs, e, q1, q2, q3, s0⟩ := RowsOf.elem hr0 (k := 0) hpos
    have q1' := q1
    simp only [Int.cast_ofNat_Int] at q1'
    simp (disch := first | omega | (simp only [List.length_append, List.length_cons, List.length_nil]; omega)) only [c34r0, c34r1, c34r2, c34r3, c34r4, c34r5, c34r6, c34r7, c34l8, c34r9, c34r10, c34r11, c34r12, c34r13, c34r14, c34r15, c34r16, c34l17, c34r18, c34r19, c34r20, c34l21, c34r22, s.lend, s.sort, hn0, q1', q2, q3, s0.lend, s0.sort, go_sem, ↓reduceIte, reduceCtorEq, Nat.reduceAdd, Nat.reduceSub, Nat.reducePow, Nat.reduceMul, Nat.reduceEqDiff, Nat.reduceLT, Nat.reduceLeDiff, Int.reduceToNat, Int.reduceLT, Int.reduceLE, Int.reduceEq, Int.reduceNeg, Int.reduceAdd, Int.reduceSub, Int.reduceMul]
    have hminl : (andR rs).length = rs.foldl (fun n x => min n x.length) (rs.getD 0 []).length := by
      cases rs with
      | nil => exact absurd rfl hrs
      | cons r rs =>
        rw [andR, andF_length, List.foldl_cons]
        rw [show (r :: rs).getD 0 [] = r from rfl, Nat.min_self]
    have hr0l := hl _ (getD_mem hpos)
    refine loop_to rs.length (fun k st => ∃ (j : Nat → D), st = ⟨(rows :: j 1 :: j 2 :: .int .i64 (((rs.take k).foldl (fun n x => min n x.length) (rs.getD 0 []).length : Nat) : Int) :: .int .i64 (k : Int) :: j 5 :: j 6 :: j 7 :: j 8 :: j 9 :: j 10 :: j 11 :: j 12 :: j 13 :: j 14 :: j 15 :: j 16 :: j 17 :: j 18 :: j 19 :: j 20 :: j 21 :: j 22 :: j 23 :: j 24 :: j 25 :: j 26 :: j 27 :: j 28 :: j 29 :: j 30 :: j 31 :: j 32 :: j 33 :: j 34 :: j 35 :: j 36 :: j 37 :: j 38 :: j 39 :: j 40 :: j 41 :: j 42 :: j 43 :: j 44 :: j 45 :: j 46 :: j 47 :: j 48 :: j 49 :: j 50 :: j 51 :: j 52 :: j 53 :: j 54 :: j 55 :: j 56 :: j 57 :: j 58 :: j 59 :: j 60 :: j 61 :: j 62 :: j 63 :: j 64 :: j 65 :: j 66 :: []), h⟩) (junk rfl) ?_
    rintro k st hk ⟨j, rfl⟩
    have hmk := minL_le (rs.take k) (rs.getD 0 []).length
    by_cases hkn : k < rs.length
    · have hkn' : (k : Int) < rs.length := by omega
      obtain ⟨p3, cs3, e3, f1, f2, f4, s3⟩ := RowsOf.elem hr0 hkn
      have hbl := hl _ (getD_mem hkn)
      have hf : (rs.take (k + 1)).foldl (fun n x => min n x.length) (rs.getD 0 []).length = min ((rs.take k).foldl (fun n x => min n x.length) (rs.getD 0 []).length) (rs.getD k []).length := by
        rw [take_snoc hkn, List.foldl_append]; rfl
      rw [hf]
      generalize (rs.take k).foldl (fun n x => min n x.length) (rs.getD 0 []).length = a at *
      generalize rs.getD k [] = b at *
      have m1 : (if (b.length : Int) < (a : Int) then (b.length : Int) else (a : Int)) = ((min a b.length : Nat) : Int) := by
        split <;> omega
      have e5 : IntKind.i64.wrap ((k : Int) + 1) = ((k + 1 : Nat) : Int) := by rw [w_i64 (by omega) (by omega)]; omega
      simp (disch := first | omega | (simp only [List.length_append, List.length_cons, List.length_nil]; omega)) only [c34r0, c34r1, c34r2, c34r3, c34r4, c34r5, c34r6, c34r7, c34l8, c34r9, c34r10, c34r11, c34r12, c34r13, c34r14, c34r15, c34r16, c34l17, c34r18, c34r19, c34r20, c34l21, c34r22, s.lend, s.sort, hkn', f1, f2, f4, s3.lend, s3.sort, m1, e5, go_sem, ↓reduceIte, reduceCtorEq, Nat.reduceAdd, Nat.reduceSub, Nat.reducePow, Nat.reduceMul, Nat.reduceEqDiff, Nat.reduceLT, Nat.reduceLeDiff, Int.reduceToNat, Int.reduceLT, Int.reduceLE, Int.reduceEq, Int.reduceNeg, Int.reduceAdd, Int.reduceSub, Int.reduceMul]
      exact ⟨hkn, junk rfl⟩
    · have hkn' : ¬ (k : Int) < rs.length := by omega
      have : k = rs.length := by omega
      subst this
      rw [List.take_length, ← hminl] at *
      have hw' := andR_words hw
      have hhas : ∀ j, hasB (andR rs) j = rs.all fun x => hasB x j := by
        intro j
        cases rs with
        | nil => exact absurd rfl hrs
        | cons r rs => rw [andR, andF_has, List.all_cons]
      generalize hn : (andR rs).length = n at *
      have e1 : IntKind.i64.wrap (64 * (n : Int)) = ((64 * n : Nat) : Int) := by rw [w_i64 (by omega) (by omega)]; omega
      simp (disch := first | omega | (simp only [List.length_append, List.length_cons, List.length_nil]; omega)) only [c34r0, c34r1, c34r2, c34r3, c34r4, c34r5, c34r6, c34r7, c34l8, c34r9, c34r10, c34r11, c34r12, c34r13, c34r14, c34r15, c34r16, c34l17, c34r18, c34r19, c34r20, c34l21, c34r22, s.lend, s.sort, hkn', e1, go_sem, ↓reduceIte, reduceCtorEq, Nat.reduceAdd, Nat.reduceSub, Nat.reducePow, Nat.reduceMul, Nat.reduceEqDiff, Nat.reduceLT, Nat.reduceLeDiff, Int.reduceToNat, Int.reduceLT, Int.reduceLE, Int.reduceEq, Int.reduceNeg, Int.reduceAdd, Int.reduceSub, Int.reduceMul]
      refine gfc_of (newRef_fc _ ((64 * n : Nat) : Int) (by omega) (by omega)) ?_
      intro d h' hnew
      obtain ⟨H, rfl, ho⟩ := OutSt.of_new hnew
      rw [newR_of (by omega)] at ho
      simp (disch := first | omega | (simp only [List.length_append, List.length_cons, List.length_nil]; omega)) only [go_sem, ↓reduceIte, reduceCtorEq, Nat.reduceAdd, Nat.reduceSub, Nat.reducePow, Nat.reduceMul, Nat.reduceEqDiff, Nat.reduceLT, Nat.reduceLeDiff, Int.reduceToNat, Int.reduceLT, Int.reduceLE, Int.reduceEq, Int.reduceNeg, Int.reduceAdd, Int.reduceSub, Int.reduceMul]
      refine loop_to (64 * n) (fun k st => ∃ (H : Heap), OutSt h (putTo (fun j => rs.all fun x => hasB x j) n k) d H ∧ ∃ (j : Nat → D), st = ⟨(rows :: j 1 :: j 2 :: .int .i64 (n : Int) :: j 4 :: d :: .int .i64 (k : Int) :: j 7 :: j 8 :: j 9 :: j 10 :: j 11 :: j 12 :: j 13 :: j 14 :: j 15 :: j 16 :: j 17 :: j 18 :: j 19 :: j 20 :: j 21 :: j 22 :: j 23 :: j 24 :: j 25 :: j 26 :: j 27 :: j 28 :: j 29 :: j 30 :: j 31 :: j 32 :: j 33 :: j 34 :: j 35 :: j 36 :: j 37 :: j 38 :: j 39 :: j 40 :: j 41 :: j 42 :: j 43 :: j 44 :: j 45 :: j 46 :: j 47 :: j 48 :: j 49 :: j 50 :: j 51 :: j 52 :: j 53 :: j 54 :: j 55 :: j 56 :: j 57 :: j 58 :: j 59 :: j 60 :: j 61 :: j 62 :: j 63 :: j 64 :: j 65 :: j 66 :: []), h ++ H⟩) ⟨H, ho, junk rfl⟩ ?_
      rintro k st hk ⟨H, ho, j, rfl⟩
      by_cases hkm : k < 64 * n
      · have hkm' : (k : Int) < ((64 * n : Nat) : Int) := by omega
        simp (disch := first | omega | (simp only [List.length_append, List.length_cons, List.length_nil]; omega)) only [c34r0, c34r1, c34r2, c34r3, c34r4, c34r5, c34r6, c34r7, c34l8, c34r9, c34r10, c34r11, c34r12, c34r13, c34r14, c34r15, c34r16, c34l17, c34r18, c34r19, c34r20, c34l21, c34r22, e1, hkm', go_sem, ↓reduceIte, reduceCtorEq, Nat.reduceAdd, Nat.reduceSub, Nat.reducePow, Nat.reduceMul, Nat.reduceEqDiff, Nat.reduceLT, Nat.reduceLeDiff, Int.reduceToNat, Int.reduceLT, Int.reduceLE, Int.reduceEq, Int.reduceNeg, Int.reduceAdd, Int.reduceSub, Int.reduceMul]
        refine loop_to rs.length (fun i st => ∃ (j : Nat → D), st = ⟨(rows :: j 1 :: j 2 :: .int .i64 (n : Int) :: j 4 :: d :: .int .i64 (k : Int) :: .bool ((rs.take i).all fun x => hasB x k) :: .int .i64 (i : Int) :: j 9 :: j 10 :: j 11 :: j 12 :: j 13 :: j 14 :: j 15 :: j 16 :: j 17 :: j 18 :: j 19 :: j 20 :: j 21 :: j 22 :: j 23 :: j 24 :: j 25 :: j 26 :: j 27 :: j 28 :: j 29 :: j 30 :: j 31 :: j 32 :: j 33 :: j 34 :: j 35 :: j 36 :: j 37 :: j 38 :: j 39 :: j 40 :: j 41 :: j 42 :: j 43 :: j 44 :: j 45 :: j 46 :: j 47 :: j 48 :: j 49 :: j 50 :: j 51 :: j 52 :: j 53 :: j 54 :: j 55 :: j 56 :: j 57 :: j 58 :: j 59 :: j 60 :: j 61 :: j 62 :: j 63 :: j 64 :: j 65 :: j 66 :: []), h ++ H⟩) (junk rfl) ?_
        rintro i st hi ⟨j, rfl⟩
        have s1 := s.low H
        have e6 : IntKind.i64.wrap ((k : Int) + 1) = ((k + 1 : Nat) : Int) := by rw [w_i64 (by omega) (by omega)]; omega
        by_cases hin : i < rs.length
        · have hin' : (i : Int) < rs.length := by omega
          have e5 : IntKind.i64.wrap ((i : Int) + 1) = ((i + 1 : Nat) : Int) := by rw [w_i64 (by omega) (by omega)]; omega
          obtain ⟨p3, cs3, e3, f1, f2, f4, s3⟩ := RowsOf.elem (hr0.low H) hin
          have hbl := hl _ (getD_mem hin)
          have hf : ((rs.take (i + 1)).all fun x => hasB x k) = (((rs.take i).all fun x => hasB x k) && hasB (rs.getD i []) k) := by
            rw [take_snoc hin, List.all_append]; simp
          rw [hf]
          cases hal : (rs.take i).all fun x => hasB x k with
          | false =>
            simp (disch := first | omega | (simp only [List.length_append, List.length_cons, List.length_nil]; omega)) only [c34r0, c34r1, c34r2, c34r3, c34r4, c34r5, c34r6, c34r7, c34l8, c34r9, c34r10, c34r11, c34r12, c34r13, c34r14, c34r15, c34r16, c34l17, c34r18, c34r19, c34r20, c34l21, c34r22, s1.lend, s1.sort, hin', e5, go_sem, ↓reduceIte, reduceCtorEq, Nat.reduceAdd, Nat.reduceSub, Nat.reducePow, Nat.reduceMul, Nat.reduceEqDiff, Nat.reduceLT, Nat.reduceLeDiff, Int.reduceToNat, Int.reduceLT, Int.reduceLE, Int.reduceEq, Int.reduceNeg, Int.reduceAdd, Int.reduceSub, Int.reduceMul]
            exact ⟨hin, junk rfl⟩
          | true =>
            simp (disch := first | omega | (simp only [List.length_append, List.length_cons, List.length_nil]; omega)) only [c34r0, c34r1, c34r2, c34r3, c34r4, c34r5, c34r6, c34r7, c34l8, c34r9, c34r10, c34r11, c34r12, c34r13, c34r14, c34r15, c34r16, c34l17, c34r18, c34r19, c34r20, c34l21, c34r22, s1.lend, s1.sort, hin', f1, f2, f4, go_sem, ↓reduceIte, reduceCtorEq, Nat.reduceAdd, Nat.reduceSub, Nat.reducePow, Nat.reduceMul, Nat.reduceEqDiff, Nat.reduceLT, Nat.reduceLeDiff, Int.reduceToNat, Int.reduceLT, Int.reduceLE, Int.reduceEq, Int.reduceNeg, Int.reduceAdd, Int.reduceSub, Int.reduceMul]
            refine gfc_of (hasRef_fc _ e3 _ s3 (by omega) (hw _ (getD_mem hin)) (k : Int) (by omega) (by omega)) ?_
            rintro d2 h2 ⟨rfl, e⟩
            rw [e, hasR_nat]
            simp (disch := first | omega | (simp only [List.length_append, List.length_cons, List.length_nil]; omega)) only [e5, go_sem, ↓reduceIte, reduceCtorEq, Nat.reduceAdd, Nat.reduceSub, Nat.reducePow, Nat.reduceMul, Nat.reduceEqDiff, Nat.reduceLT, Nat.reduceLeDiff, Int.reduceToNat, Int.reduceLT, Int.reduceLE, Int.reduceEq, Int.reduceNeg, Int.reduceAdd, Int.reduceSub, Int.reduceMul]
            exact ⟨hin, junk rfl⟩
        · have hin' : ¬ (i : Int) < rs.length := by omega
          have : i = rs.length := by omega
          subst this
          rw [List.take_length]
          have hlo := putTo_length (fun j => rs.all fun x => hasB x j) n k
          have hkd : k / 64 < n := by omega
          have hset := setR_nat (ws := putTo (fun j => rs.all fun x => hasB x j) n k) (k := k) (by rw [hlo]; exact hkd)
          have hput : putTo (fun j => rs.all fun x => hasB x j) n (k + 1) = if (rs.all fun x => hasB x k) = true then setR (putTo (fun j => rs.all fun x => hasB x j) n k) (k : Int) else putTo (fun j => rs.all fun x => hasB x j) n k := rfl
          have hww := (putTo_words (fun j => rs.all fun x => hasB x j) n k).getD (k / 64)
          rw [hput]
          generalize putTo (fun j => rs.all fun x => hasB x j) n k = ws at *
          cases hal : rs.all fun x => hasB x k with
          | false =>
            simp (disch := first | omega | (simp only [List.length_append, List.length_cons, List.length_nil]; omega)) only [c34r0, c34r1, c34r2, c34r3, c34r4, c34r5, c34r6, c34r7, c34l8, c34r9, c34r10, c34r11, c34r12, c34r13, c34r14, c34r15, c34r16, c34l17, c34r18, c34r19, c34r20, c34l21, c34r22, s1.lend, s1.sort, hin', e6, go_sem, ↓reduceIte, reduceCtorEq, Nat.reduceAdd, Nat.reduceSub, Nat.reducePow, Nat.reduceMul, Nat.reduceEqDiff, Nat.reduceLT, Nat.reduceLeDiff, Int.reduceToNat, Int.reduceLT, Int.reduceLE, Int.reduceEq, Int.reduceNeg, Int.reduceAdd, Int.reduceSub, Int.reduceMul]
            exact ⟨hkm, H, ho, junk rfl⟩
          | true =>
            obtain ⟨p4, cs4, w1, w2, w3, w4⟩ := ho.at (i := k / 64) (by omega)
            obtain ⟨H', w5, w6⟩ := w4 (ws.getD (k / 64) 0 ||| 2 ^ (k % 64))
            rw [← hset] at w6
            have g1 : IntKind.i64.wrap ((k / 64 : Nat) : Int) = ((k / 64 : Nat) : Int) := w_i64 (by omega) (by omega)
            have g2 : IntKind.i64.wrap ((k % 64 : Nat) : Int) = ((k % 64 : Nat) : Int) := w_i64 (by omega) (by omega)
            simp (disch := first | omega | (simp only [List.length_append, List.length_cons, List.length_nil]; omega)) only [c34r0, c34r1, c34r2, c34r3, c34r4, c34r5, c34r6, c34r7, c34l8, c34r9, c34r10, c34r11, c34r12, c34r13, c34r14, c34r15, c34r16, c34l17, c34r18, c34r19, c34r20, c34l21, c34r22, s1.lend, s1.sort, hin', g1, g2, w1, w2, w3, go_sem, ↓reduceIte, reduceCtorEq, Nat.reduceAdd, Nat.reduceSub, Nat.reducePow, Nat.reduceMul, Nat.reduceEqDiff, Nat.reduceLT, Nat.reduceLeDiff, Int.reduceToNat, Int.reduceLT, Int.reduceLE, Int.reduceEq, Int.reduceNeg, Int.reduceAdd, Int.reduceSub, Int.reduceMul]
            refine gfc_of (setBits_fc _ _ (k % 64) hww (by omega)) ?_
            rintro d2 h2 ⟨rfl, e⟩
            rw [e]
            simp (disch := first | omega | (simp only [List.length_append, List.length_cons, List.length_nil]; omega)) only [w1, w5, e6, go_sem, ↓reduceIte, reduceCtorEq, Nat.reduceAdd, Nat.reduceSub, Nat.reducePow, Nat.reduceMul, Nat.reduceEqDiff, Nat.reduceLT, Nat.reduceLeDiff, Int.reduceToNat, Int.reduceLT, Int.reduceLE, Int.reduceEq, Int.reduceNeg, Int.reduceAdd, Int.reduceSub, Int.reduceMul]
            exact ⟨hkm, H', w6, junk rfl⟩
      · have hkm' : ¬ (k : Int) < ((64 * n : Nat) : Int) := by omega
        have : k = 64 * n := by omega
        subst this
        simp (disch := first | omega | (simp only [List.length_append, List.length_cons, List.length_nil]; omega)) only [c34r0, c34r1, c34r2, c34r3, c34r4, c34r5, c34r6, c34r7, c34l8, c34r9, c34r10, c34r11, c34r12, c34r13, c34r14, c34r15, c34r16, c34l17, c34r18, c34r19, c34r20, c34l21, c34r22, e1, hkm', go_sem, ↓reduceIte, reduceCtorEq, Nat.reduceAdd, Nat.reduceSub, Nat.reducePow, Nat.reduceMul, Nat.reduceEqDiff, Nat.reduceLT, Nat.reduceLeDiff, Int.reduceToNat, Int.reduceLT, Int.reduceLE, Int.reduceEq, Int.reduceNeg, Int.reduceAdd, Int.reduceSub, Int.reduceMul]
        rw [putTo_eq hn hw' fun j _ => hhas j] at ho
        rw [← hn]
        exact ho.fin

theorem any_snoc {rs : List (List Nat)} {k j : Nat} (h : k < rs.length) : ((rs.take (k + 1)).any fun x => hasB x j) = (((rs.take k).any fun x => hasB x j) || hasB (rs.getD k []) j) := by
  rw [take_snoc h, List.any_append]; simp
theorem orRef_fc (h : Heap) (rows : D) (rs : List (List Nat)) (hr : RowsOf h rows rs) (hlen : rs.length ≤ 1048576) (hl : ∀ x ∈ rs, x.length ≤ 1000) (hw : ∀ x ∈ rs, Words x) :
    FC Try.prog 36 [rows] h fun d h' => ∃ L, h' = h ++ L ∧ SlOf h' 1 d (u64s (orR rs)) (orR rs).length := by
  have hr0 := hr
  obtain ⟨ds, s, hds⟩ := hr
  refine FC.goes cf36 ?_; simp only [c36]; simp only [List.length_cons, List.length_nil, Nat.reduceAdd, Nat.reduceSub, List.replicate_succ, List.replicate_zero, List.cons_append, List.nil_append]
  simp (disch := first | omega | (simp only [List.length_append, List.length_cons, List.length_nil]; omega)) only [c36r0, c36r1, c36r2, c36r3, c36r4, c36r5, c36l6, c36r7, c36r8, c36r9, c36r10, c36r11, c36r12, c36r13, c36r14, c36l15, c36r16, c36l17, c36r18, go_sem, ↓reduceIte, reduceCtorEq, Nat.reduceAdd, Nat.reduceSub, Nat.reducePow, Nat.reduceMul, Nat.reduceEqDiff, Nat.reduceLT, Nat.reduceLeDiff, Int.reduceToNat, Int.reduceLT, Int.reduceLE, Int.reduceEq, Int.reduceNeg, Int.reduceAdd, Int.reduceSub, Int.reduceMul]
  have hmaxl : (orR rs).length = rs.foldl (fun n x => max n x.length) 0 := orF_length rs []
  refine loop_to rs.length (fun k st => ∃ (j : Nat → D), st = ⟨(rows :: j 1 :: j 2 :: .int .i64 (((rs.take k).foldl (fun n x => max n x.length) 0 : Nat) : Int) :: .int .i64 (k : Int) :: j 5 :: j 6 :: j 7 :: j 8 :: j 9 :: j 10 :: j 11 :: j 12 :: j 13 :: j 14 :: j 15 :: j 16 :: j 17 :: j 18 :: j 19 :: j 20 :: j 21 :: j 22 :: j 23 :: j 24 :: j 25 :: j 26 :: j 27 :: j 28 :: j 29 :: j 30 :: j 31 :: j 32 :: j 33 :: j 34 :: j 35 :: j 36 :: j 37 :: j 38 :: j 39 :: j 40 :: j 41 :: j 42 :: j 43 :: j 44 :: j 45 :: j 46 :: j 47 :: j 48 :: j 49 :: j 50 :: j 51 :: j 52 :: j 53 :: j 54 :: []), h⟩) (junk rfl) ?_
  rintro k st hk ⟨j, rfl⟩
  have hmk := maxL_le 1000 (rs.take k) 0 (by omega) fun x hx => hl x (List.mem_of_mem_take hx)
  by_cases hkn : k < rs.length
  · have hkn' : (k : Int) < rs.length := by omega
    obtain ⟨p3, cs3, e3, f1, f2, f4, s3⟩ := RowsOf.elem hr0 hkn
    have hbl := hl _ (getD_mem hkn)
    have hf : (rs.take (k + 1)).foldl (fun n x => max n x.length) 0 = max ((rs.take k).foldl (fun n x => max n x.length) 0) (rs.getD k []).length := by
      rw [take_snoc hkn, List.foldl_append]; rfl
    rw [hf]
    generalize (rs.take k).foldl (fun n x => max n x.length) 0 = a at *
    generalize rs.getD k [] = b at *
    have m1 : (if (a : Int) < (b.length : Int) then (b.length : Int) else (a : Int)) = ((max a b.length : Nat) : Int) := by
      split <;> omega
    have m2 : (if (b.length : Int) > (a : Int) then (b.length : Int) else (a : Int)) = ((max a b.length : Nat) : Int) := m1
    have e5 : IntKind.i64.wrap ((k : Int) + 1) = ((k + 1 : Nat) : Int) := by rw [w_i64 (by omega) (by omega)]; omega
    simp (disch := first | omega | (simp only [List.length_append, List.length_cons, List.length_nil]; omega)) only [c36r0, c36r1, c36r2, c36r3, c36r4, c36r5, c36l6, c36r7, c36r8, c36r9, c36r10, c36r11, c36r12, c36r13, c36r14, c36l15, c36r16, c36l17, c36r18, s.lend, s.sort, hkn', f1, f2, f4, s3.lend, s3.sort, m1, m2, e5, go_sem, ↓reduceIte, reduceCtorEq, Nat.reduceAdd, Nat.reduceSub, Nat.reducePow, Nat.reduceMul, Nat.reduceEqDiff, Nat.reduceLT, Nat.reduceLeDiff, Int.reduceToNat, Int.reduceLT, Int.reduceLE, Int.reduceEq, Int.reduceNeg, Int.reduceAdd, Int.reduceSub, Int.reduceMul]
    exact ⟨hkn, junk rfl⟩
  · have hkn' : ¬ (k : Int) < rs.length := by omega
    have : k = rs.length := by omega
    subst this
    rw [List.take_length, ← hmaxl] at *
    have hw' := orR_words hw
    have hhas : ∀ j, hasB (orR rs) j = rs.any fun x => hasB x j := orR_has rs
    generalize hn : (orR rs).length = n at *
    have e1 : IntKind.i64.wrap (64 * (n : Int)) = ((64 * n : Nat) : Int) := by rw [w_i64 (by omega) (by omega)]; omega
    simp (disch := first | omega | (simp only [List.length_append, List.length_cons, List.length_nil]; omega)) only [c36r0, c36r1, c36r2, c36r3, c36r4, c36r5, c36l6, c36r7, c36r8, c36r9, c36r10, c36r11, c36r12, c36r13, c36r14, c36l15, c36r16, c36l17, c36r18, s.lend, s.sort, hkn', e1, go_sem, ↓reduceIte, reduceCtorEq, Nat.reduceAdd, Nat.reduceSub, Nat.reducePow, Nat.reduceMul, Nat.reduceEqDiff, Nat.reduceLT, Nat.reduceLeDiff, Int.reduceToNat, Int.reduceLT, Int.reduceLE, Int.reduceEq, Int.reduceNeg, Int.reduceAdd, Int.reduceSub, Int.reduceMul]
    refine gfc_of (newRef_fc _ ((64 * n : Nat) : Int) (by omega) (by omega)) ?_
    intro d h' hnew
    obtain ⟨H, rfl, ho⟩ := OutSt.of_new hnew
    rw [newR_of (by omega)] at ho
    simp (disch := first | omega | (simp only [List.length_append, List.length_cons, List.length_nil]; omega)) only [go_sem, ↓reduceIte, reduceCtorEq, Nat.reduceAdd, Nat.reduceSub, Nat.reducePow, Nat.reduceMul, Nat.reduceEqDiff, Nat.reduceLT, Nat.reduceLeDiff, Int.reduceToNat, Int.reduceLT, Int.reduceLE, Int.reduceEq, Int.reduceNeg, Int.reduceAdd, Int.reduceSub, Int.reduceMul]
    refine loop_to (64 * n) (fun k st => ∃ (H : Heap), OutSt h (putTo (fun j => rs.any fun x => hasB x j) n k) d H ∧ ∃ (j : Nat → D), st = ⟨(rows :: j 1 :: j 2 :: .int .i64 (n : Int) :: j 4 :: d :: .int .i64 (k : Int) :: j 7 :: j 8 :: j 9 :: j 10 :: j 11 :: j 12 :: j 13 :: j 14 :: j 15 :: j 16 :: j 17 :: j 18 :: j 19 :: j 20 :: j 21 :: j 22 :: j 23 :: j 24 :: j 25 :: j 26 :: j 27 :: j 28 :: j 29 :: j 30 :: j 31 :: j 32 :: j 33 :: j 34 :: j 35 :: j 36 :: j 37 :: j 38 :: j 39 :: j 40 :: j 41 :: j 42 :: j 43 :: j 44 :: j 45 :: j 46 :: j 47 :: j 48 :: j 49 :: j 50 :: j 51 :: j 52 :: j 53 :: j 54 :: []), h ++ H⟩) ⟨H, ho, junk rfl⟩ ?_
    rintro k st hk ⟨H, ho, j, rfl⟩
    by_cases hkm : k < 64 * n
    · have hkm' : (k : Int) < ((64 * n : Nat) : Int) := by omega
      simp (disch := first | omega | (simp only [List.length_append, List.length_cons, List.length_nil]; omega)) only [c36r0, c36r1, c36r2, c36r3, c36r4, c36r5, c36l6, c36r7, c36r8, c36r9, c36r10, c36r11, c36r12, c36r13, c36r14, c36l15, c36r16, c36l17, c36r18, e1, hkm', go_sem, ↓reduceIte, reduceCtorEq, Nat.reduceAdd, Nat.reduceSub, Nat.reducePow, Nat.reduceMul, Nat.reduceEqDiff, Nat.reduceLT, Nat.reduceLeDiff, Int.reduceToNat, Int.reduceLT, Int.reduceLE, Int.reduceEq, Int.reduceNeg, Int.reduceAdd, Int.reduceSub, Int.reduceMul]
      have hlo := putTo_length (fun j => rs.any fun x => hasB x j) n k
      have hkd : k / 64 < n := by omega
      have hput : putTo (fun j => rs.any fun x => hasB x j) n (k + 1) = if (rs.any fun x => hasB x k) = true then setR (putTo (fun j => rs.any fun x => hasB x j) n k) (k : Int) else putTo (fun j => rs.any fun x => hasB x j) n k := rfl
      have hww := (putTo_words (fun j => rs.any fun x => hasB x j) n k)
      rw [hput]
      generalize putTo (fun j => rs.any fun x => hasB x j) n k = ws at *
      refine loop_to rs.length (fun i st => ∃ (H : Heap), OutSt h (if ((rs.take i).any fun x => hasB x k) = true then setR ws (k : Int) else ws) d H ∧ ∃ (j : Nat → D), st = ⟨(rows :: j 1 :: j 2 :: .int .i64 (n : Int) :: j 4 :: d :: .int .i64 (k : Int) :: .int .i64 (i : Int) :: j 8 :: j 9 :: j 10 :: j 11 :: j 12 :: j 13 :: j 14 :: j 15 :: j 16 :: j 17 :: j 18 :: j 19 :: j 20 :: j 21 :: j 22 :: j 23 :: j 24 :: j 25 :: j 26 :: j 27 :: j 28 :: j 29 :: j 30 :: j 31 :: j 32 :: j 33 :: j 34 :: j 35 :: j 36 :: j 37 :: j 38 :: j 39 :: j 40 :: j 41 :: j 42 :: j 43 :: j 44 :: j 45 :: j 46 :: j 47 :: j 48 :: j 49 :: j 50 :: j 51 :: j 52 :: j 53 :: j 54 :: []), h ++ H⟩) ⟨H, by simpa using ho, junk rfl⟩ ?_
      rintro i st hi ⟨H, ho, j, rfl⟩
      have s1 := s.low H
      have e6 : IntKind.i64.wrap ((k : Int) + 1) = ((k + 1 : Nat) : Int) := by rw [w_i64 (by omega) (by omega)]; omega
      by_cases hin : i < rs.length
      · have hin' : (i : Int) < rs.length := by omega
        have e5 : IntKind.i64.wrap ((i : Int) + 1) = ((i + 1 : Nat) : Int) := by rw [w_i64 (by omega) (by omega)]; omega
        obtain ⟨p3, cs3, e3, f1, f2, f4, s3⟩ := RowsOf.elem (hr0.low H) hin
        have hbl := hl _ (getD_mem hin)
        rw [any_snoc hin]
        simp (disch := first | omega | (simp only [List.length_append, List.length_cons, List.length_nil]; omega)) only [c36r0, c36r1, c36r2, c36r3, c36r4, c36r5, c36l6, c36r7, c36r8, c36r9, c36r10, c36r11, c36r12, c36r13, c36r14, c36l15, c36r16, c36l17, c36r18, s1.lend, s1.sort, hin', f1, f2, f4, go_sem, ↓reduceIte, reduceCtorEq, Nat.reduceAdd, Nat.reduceSub, Nat.reducePow, Nat.reduceMul, Nat.reduceEqDiff, Nat.reduceLT, Nat.reduceLeDiff, Int.reduceToNat, Int.reduceLT, Int.reduceLE, Int.reduceEq, Int.reduceNeg, Int.reduceAdd, Int.reduceSub, Int.reduceMul]
        refine gfc_of (hasRef_fc _ e3 _ s3 (by omega) (hw _ (getD_mem hin)) (k : Int) (by omega) (by omega)) ?_
        rintro d2 h2 ⟨rfl, e⟩
        rw [e, hasR_nat]
        cases hal : hasB (rs.getD i []) k with
        | false =>
          simp (disch := first | omega | (simp only [List.length_append, List.length_cons, List.length_nil]; omega)) only [e5, go_sem, ↓reduceIte, reduceCtorEq, Nat.reduceAdd, Nat.reduceSub, Nat.reducePow, Nat.reduceMul, Nat.reduceEqDiff, Nat.reduceLT, Nat.reduceLeDiff, Int.reduceToNat, Int.reduceLT, Int.reduceLE, Int.reduceEq, Int.reduceNeg, Int.reduceAdd, Int.reduceSub, Int.reduceMul]
          refine ⟨hin, H, ?_, junk rfl⟩
          rw [Bool.or_false]; exact ho
        | true =>
          have hset := setR_nat (ws := ws) (k := k) (by rw [hlo]; exact hkd)
          have hv : (if ((rs.take i).any fun x => hasB x k) = true then setR ws (k : Int) else ws).getD (k / 64) 0 ||| 2 ^ (k % 64) = ws.getD (k / 64) 0 ||| 2 ^ (k % 64) := by
            split
            · rw [hset, set_getD, if_pos ⟨rfl, by omega⟩, Nat.or_assoc, Nat.or_self]
            · rfl
          have hs2 : (if ((rs.take i).any fun x => hasB x k) = true then setR ws (k : Int) else ws).set (k / 64) (ws.getD (k / 64) 0 ||| 2 ^ (k % 64)) = setR ws (k : Int) := by
            split
            · rw [hset, List.set_set]
            · rw [hset]
          have hlen3 : (if ((rs.take i).any fun x => hasB x k) = true then setR ws (k : Int) else ws).length = n := by
            split
            · rw [setR_length, hlo]
            · exact hlo
          have hwds : (if ((rs.take i).any fun x => hasB x k) = true then setR ws (k : Int) else ws).getD (k / 64) 0 < 18446744073709551616 := by
            split
            · exact Words.getD (setR_lt hww _) _
            · exact hww.getD _
          obtain ⟨p4, cs4, w1, w2, w3, w4⟩ := ho.at (i := k / 64) (by omega)
          obtain ⟨H', w5, w6⟩ := w4 (ws.getD (k / 64) 0 ||| 2 ^ (k % 64))
          rw [hs2] at w6
          generalize (if ((rs.take i).any fun x => hasB x k) = true then setR ws (k : Int) else ws) = ws2 at *
          have g1 : IntKind.i64.wrap ((k / 64 : Nat) : Int) = ((k / 64 : Nat) : Int) := w_i64 (by omega) (by omega)
          have g2 : IntKind.i64.wrap ((k % 64 : Nat) : Int) = ((k % 64 : Nat) : Int) := w_i64 (by omega) (by omega)
          simp (disch := first | omega | (simp only [List.length_append, List.length_cons, List.length_nil]; omega)) only [g1, g2, w1, w2, w3, go_sem, ↓reduceIte, reduceCtorEq, Nat.reduceAdd, Nat.reduceSub, Nat.reducePow, Nat.reduceMul, Nat.reduceEqDiff, Nat.reduceLT, Nat.reduceLeDiff, Int.reduceToNat, Int.reduceLT, Int.reduceLE, Int.reduceEq, Int.reduceNeg, Int.reduceAdd, Int.reduceSub, Int.reduceMul]
          refine gfc_of (setBits_fc _ _ (k % 64) hwds (by omega)) ?_
          rintro d2 h2 ⟨rfl, e⟩
          rw [e, hv]
          simp (disch := first | omega | (simp only [List.length_append, List.length_cons, List.length_nil]; omega)) only [w1, w5, e5, go_sem, ↓reduceIte, reduceCtorEq, Nat.reduceAdd, Nat.reduceSub, Nat.reducePow, Nat.reduceMul, Nat.reduceEqDiff, Nat.reduceLT, Nat.reduceLeDiff, Int.reduceToNat, Int.reduceLT, Int.reduceLE, Int.reduceEq, Int.reduceNeg, Int.reduceAdd, Int.reduceSub, Int.reduceMul]
          refine ⟨hin, H', ?_, junk rfl⟩
          simp only [Bool.or_true, if_true]
          exact w6
      · have hin' : ¬ (i : Int) < rs.length := by omega
        have : i = rs.length := by omega
        subst this
        rw [List.take_length] at ho
        simp (disch := first | omega | (simp only [List.length_append, List.length_cons, List.length_nil]; omega)) only [c36r0, c36r1, c36r2, c36r3, c36r4, c36r5, c36l6, c36r7, c36r8, c36r9, c36r10, c36r11, c36r12, c36r13, c36r14, c36l15, c36r16, c36l17, c36r18, s1.lend, s1.sort, hin', e6, go_sem, ↓reduceIte, reduceCtorEq, Nat.reduceAdd, Nat.reduceSub, Nat.reducePow, Nat.reduceMul, Nat.reduceEqDiff, Nat.reduceLT, Nat.reduceLeDiff, Int.reduceToNat, Int.reduceLT, Int.reduceLE, Int.reduceEq, Int.reduceNeg, Int.reduceAdd, Int.reduceSub, Int.reduceMul]
        exact ⟨hkm, H, ho, junk rfl⟩
    · have hkm' : ¬ (k : Int) < ((64 * n : Nat) : Int) := by omega
      have : k = 64 * n := by omega
      subst this
      simp (disch := first | omega | (simp only [List.length_append, List.length_cons, List.length_nil]; omega)) only [c36r0, c36r1, c36r2, c36r3, c36r4, c36r5, c36l6, c36r7, c36r8, c36r9, c36r10, c36r11, c36r12, c36r13, c36r14, c36l15, c36r16, c36l17, c36r18, e1, hkm', go_sem, ↓reduceIte, reduceCtorEq, Nat.reduceAdd, Nat.reduceSub, Nat.reducePow, Nat.reduceMul, Nat.reduceEqDiff, Nat.reduceLT, Nat.reduceLeDiff, Int.reduceToNat, Int.reduceLT, Int.reduceLE, Int.reduceEq, Int.reduceNeg, Int.reduceAdd, Int.reduceSub, Int.reduceMul]
      rw [putTo_eq hn hw' fun j _ => hhas j] at ho
      rw [← hn]
      exact ho.fin
end Go.Proofs
