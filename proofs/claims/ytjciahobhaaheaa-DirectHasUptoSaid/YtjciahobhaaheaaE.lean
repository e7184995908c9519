/-
  Own work. The walks of the document's bits: bit, are, Bits, SetBits; Same, SameInts, Has, New.
-/
import Derived.Test.YtjciahobhaaheaaD
namespace Go.Proofs
open Go Go.Ytjciahobhaaheaa
set_option linter.unusedVariables false
set_option linter.unusedSimpArgs false
set_option maxRecDepth 10000

/-! ### weighbridge/weighbridgeref01.bit, params 2 -/
def c48r0 : List AStm := [.op (some 4) none (.mv (.c (.int .u64 0)))]
def c48r1 : List AStm := [.op (some 5) none (.mv (.t 1)),
    .op (some 6) none (.bin .gtr (.t 5) (.c (.int .i64 0)))]
def c48r2 : List AStm := [.op (some 9) none (.mv (.t 0)),
    .op (some 10) none (.bin .quo (.t 9) (.c (.int .u64 2))),
    .op (some 0) none (.mv (.t 10))]
def c48r3 : List AStm := [.op (some 7) none (.mv (.t 1)),
    .op (some 8) none (.bin .sub (.t 7) (.c (.int .i64 1))),
    .op (some 1) none (.mv (.t 8))]
def c48l4 : AC := .seq (.seq (.reg c48r1) (.cond (.t 6) (.skip) (.exit 0))) (.seq (.block 1 (.reg c48r2)) (.reg c48r3))
def c48r5 : List AStm := [.op (some 11) none (.mv (.t 0)),
    .op (some 12) none (.bin .rem (.t 11) (.c (.int .u64 2))),
    .op (some 4) none (.mv (.t 12))]
def c48 : CF := ⟨.seq (.reg c48r0) (.seq (.block 0 (.loop c48l4)) (.seq (.reg c48r5) (.ret))), [.tmp 4], 13⟩
theorem cf48 : cfun Try.prog 48 = some c48 := by kernel_rfl

/-! ### weighbridge/weighbridgeref01.are, params 2 -/
def c47r0 : List AStm := [.op (some 4) none (.mv (.c (.bool false)))]
def c47r1 : List AStm := [.op (some 5) none (.mv (.t 0)),
    .op (some 6) none (.bin .geq (.t 5) (.c (.int .i64 0))),
    .op (some 7) none (.mv (.t 6)),
    .op (some 8) (some (7, true)) (.mv (.t 0)),
    .op (some 9) (some (7, true)) (.bin .leq (.t 8) (.c (.int .i64 63))),
    .op (some 10) none (.pick (.t 7) (.t 9) (.c (.bool false))),
    .op (some 11) none (.mv (.t 10)),
    .op (some 12) (some (11, true)) (.mv (.t 1)),
    .op (some 13) (some (11, true)) (.bin .geq (.t 12) (.c (.int .i64 0))),
    .op (some 14) none (.pick (.t 11) (.t 13) (.c (.bool false))),
    .op (some 15) none (.mv (.t 14)),
    .op (some 16) (some (15, true)) (.mv (.t 1)),
    .op (some 17) (some (15, true)) (.mv (.t 0)),
    .op (some 18) (some (15, true)) (.bin .sub (.c (.int .i64 64)) (.t 17)),
    .op (some 19) (some (15, true)) (.bin .leq (.t 16) (.t 18)),
    .op (some 20) none (.pick (.t 15) (.t 19) (.c (.bool false))),
    .op (some 4) none (.mv (.t 20))]
def c47 : CF := ⟨.seq (.reg c47r0) (.seq (.reg c47r1) (.ret)), [.tmp 4], 21⟩
theorem cf47 : cfun Try.prog 47 = some c47 := by kernel_rfl

/-! ### weighbridge/weighbridgeref01.Bits, params 3 -/
def c45r0 : List AStm := [.op (some 6) none (.mv (.c (.int .u64 0)))]
def c45r1 : List AStm := [.op (some 9) none (.mv (.t 1)),
    .op (some 10) none (.mv (.t 2)),
    .call (some 11) none (.c (.fn (.func 47) [] [])) [(.t 9), (.t 10)],
    .op (some 12) none (.un .not (.t 11))]
def c45r2 : List AStm := [.op (some 6) none (.mv (.c (.int .u64 0)))]
def c45r3 : List AStm := [.op (some 7) none (.mv (.c (.int .u64 0)))]
def c45r4 : List AStm := [.op (some 13) none (.mv (.t 2)),
    .op (some 14) none (.bin .sub (.t 13) (.c (.int .i64 1))),
    .op (some 8) none (.mv (.t 14))]
def c45r5 : List AStm := [.op (some 15) none (.mv (.t 8)),
    .op (some 16) none (.bin .geq (.t 15) (.c (.int .i64 0)))]
def c45r6 : List AStm := [.op (some 19) none (.mv (.t 7)),
    .op (some 20) none (.bin .mul (.t 19) (.c (.int .u64 2))),
    .op (some 21) none (.mv (.t 0)),
    .op (some 22) none (.mv (.t 1)),
    .op (some 23) none (.mv (.t 8)),
    .op (some 24) none (.bin .add (.t 22) (.t 23)),
    .call (some 25) none (.c (.fn (.func 48) [] [])) [(.t 21), (.t 24)],
    .op (some 26) none (.bin .add (.t 20) (.t 25)),
    .op (some 7) none (.mv (.t 26))]
def c45r7 : List AStm := [.op (some 17) none (.mv (.t 8)),
    .op (some 18) none (.bin .sub (.t 17) (.c (.int .i64 1))),
    .op (some 8) none (.mv (.t 18))]
def c45l8 : AC := .seq (.seq (.reg c45r5) (.cond (.t 16) (.skip) (.exit 0))) (.seq (.block 1 (.reg c45r6)) (.reg c45r7))
def c45r9 : List AStm := [.op (some 27) none (.mv (.t 7)),
    .op (some 6) none (.mv (.t 27))]
def c45 : CF := ⟨.seq (.reg c45r0) (.seq (.seq (.reg c45r1) (.cond (.t 12) (.seq (.reg c45r2) (.ret)) (.skip))) (.seq (.reg c45r3) (.seq (.seq (.reg c45r4) (.block 0 (.loop c45l8))) (.seq (.reg c45r9) (.ret))))), [.tmp 6], 28⟩
theorem cf45 : cfun Try.prog 45 = some c45 := by kernel_rfl

/-! ### weighbridge/weighbridgeref01.SetBits, params 4 -/
def c44r0 : List AStm := [.op (some 8) none (.mv (.c (.int .u64 0)))]
def c44r1 : List AStm := [.op (some 11) none (.mv (.t 1)),
    .op (some 12) none (.mv (.t 2)),
    .call (some 13) none (.c (.fn (.func 47) [] [])) [(.t 11), (.t 12)],
    .op (some 14) none (.un .not (.t 13))]
def c44r2 : List AStm := [.op (some 15) none (.mv (.t 0)),
    .op (some 8) none (.mv (.t 15))]
def c44r3 : List AStm := [.op (some 9) none (.mv (.c (.int .u64 0)))]
def c44r4 : List AStm := [.op (some 10) none (.mv (.c (.int .i64 63)))]
def c44r5 : List AStm := [.op (some 16) none (.mv (.t 10)),
    .op (some 17) none (.bin .geq (.t 16) (.c (.int .i64 0)))]
def c44r6 : List AStm := [.op (some 20) none (.mv (.t 10)),
    .op (some 21) none (.mv (.t 1)),
    .op (some 22) none (.bin .geq (.t 20) (.t 21)),
    .op (some 23) none (.mv (.t 22)),
    .op (some 24) (some (23, true)) (.mv (.t 10)),
    .op (some 25) (some (23, true)) (.mv (.t 1)),
    .op (some 26) (some (23, true)) (.mv (.t 2)),
    .op (some 27) (some (23, true)) (.bin .add (.t 25) (.t 26)),
    .op (some 28) (some (23, true)) (.bin .lss (.t 24) (.t 27)),
    .op (some 29) none (.pick (.t 23) (.t 28) (.c (.bool false)))]
def c44r7 : List AStm := [.op (some 30) none (.mv (.t 9)),
    .op (some 31) none (.bin .mul (.t 30) (.c (.int .u64 2))),
    .op (some 32) none (.mv (.t 3)),
    .op (some 33) none (.mv (.t 10)),
    .op (some 34) none (.mv (.t 1)),
    .op (some 35) none (.bin .sub (.t 33) (.t 34)),
    .call (some 36) none (.c (.fn (.func 48) [] [])) [(.t 32), (.t 35)],
    .op (some 37) none (.bin .add (.t 31) (.t 36)),
    .op (some 9) none (.mv (.t 37))]
def c44r8 : List AStm := [.op (some 38) none (.mv (.t 9)),
    .op (some 39) none (.bin .mul (.t 38) (.c (.int .u64 2))),
    .op (some 40) none (.mv (.t 0)),
    .op (some 41) none (.mv (.t 10)),
    .call (some 42) none (.c (.fn (.func 48) [] [])) [(.t 40), (.t 41)],
    .op (some 43) none (.bin .add (.t 39) (.t 42)),
    .op (some 9) none (.mv (.t 43))]
def c44r9 : List AStm := [.op (some 18) none (.mv (.t 10)),
    .op (some 19) none (.bin .sub (.t 18) (.c (.int .i64 1))),
    .op (some 10) none (.mv (.t 19))]
def c44l10 : AC := .seq (.seq (.reg c44r5) (.cond (.t 17) (.skip) (.exit 0))) (.seq (.block 1 (.seq (.reg c44r6) (.cond (.t 29) (.reg c44r7) (.reg c44r8)))) (.reg c44r9))
def c44r11 : List AStm := [.op (some 44) none (.mv (.t 9)),
    .op (some 8) none (.mv (.t 44))]
def c44 : CF := ⟨.seq (.reg c44r0) (.seq (.seq (.reg c44r1) (.cond (.t 14) (.seq (.reg c44r2) (.ret)) (.skip))) (.seq (.reg c44r3) (.seq (.seq (.reg c44r4) (.block 0 (.loop c44l10))) (.seq (.reg c44r11) (.ret))))), [.tmp 8], 45⟩
theorem cf44 : cfun Try.prog 44 = some c44 := by kernel_rfl

/-! ### weighbridge/weighbridgeref18.Same, params 2 -/
def c12r0 : List AStm := [.op (some 4) none (.mv (.c (.bool false)))]
def c12r1 : List AStm := [.op (some 6) none (.mv (.t 0)),
    .op (some 7) none (.len false (.t 6)),
    .op (some 8) none (.mv (.t 1)),
    .op (some 9) none (.len false (.t 8)),
    .op (some 10) none (.bin .neq (.t 7) (.t 9))]
def c12r2 : List AStm := [.op (some 4) none (.mv (.c (.bool false)))]
def c12r3 : List AStm := [.op (some 5) none (.mv (.c (.int .i64 0)))]
def c12r4 : List AStm := [.op (some 11) none (.mv (.t 5)),
    .op (some 12) none (.mv (.t 0)),
    .op (some 13) none (.len false (.t 12)),
    .op (some 14) none (.bin .lss (.t 11) (.t 13))]
def c12r5 : List AStm := [.op (some 17) none (.mv (.t 0)),
    .op (some 18) none (.mv (.t 5)),
    .op (some 19) none (.ixs 1 (.t 17) (.t 18)),
    .op (some 20) none (.load none (.t 19)),
    .op (some 21) none (.mv (.t 1)),
    .op (some 22) none (.mv (.t 5)),
    .op (some 23) none (.ixs 1 (.t 21) (.t 22)),
    .op (some 24) none (.load none (.t 23)),
    .op (some 25) none (.bin .neq (.t 20) (.t 24))]
def c12r6 : List AStm := []
def c12r7 : List AStm := [.op (some 4) none (.mv (.c (.bool false)))]
def c12r8 : List AStm := [.op (some 15) none (.mv (.t 5)),
    .op (some 16) none (.bin .add (.t 15) (.c (.int .i64 1))),
    .op (some 5) none (.mv (.t 16))]
def c12l9 : AC := .seq (.seq (.reg c12r4) (.cond (.t 14) (.skip) (.exit 0))) (.seq (.block 1 (.seq (.dreg c12r5 c12r6) (.cond (.t 25) (.seq (.reg c12r7) (.ret)) (.skip)))) (.reg c12r8))
def c12r10 : List AStm := [.op (some 4) none (.mv (.c (.bool true)))]
def c12 : CF := ⟨.seq (.reg c12r0) (.seq (.seq (.reg c12r1) (.cond (.t 10) (.seq (.reg c12r2) (.ret)) (.skip))) (.seq (.seq (.reg c12r3) (.block 0 (.loop c12l9))) (.seq (.reg c12r10) (.ret)))), [.tmp 4], 26⟩
theorem cf12 : cfun Try.prog 12 = some c12 := by kernel_rfl

/-! ### weighbridge/weighbridgeref08.SameInts, params 2 -/
def c29r0 : List AStm := [.op (some 4) none (.mv (.c (.bool false)))]
def c29r1 : List AStm := [.op (some 6) none (.mv (.t 0)),
    .op (some 7) none (.len false (.t 6)),
    .op (some 8) none (.mv (.t 1)),
    .op (some 9) none (.len false (.t 8)),
    .op (some 10) none (.bin .neq (.t 7) (.t 9))]
def c29r2 : List AStm := [.op (some 4) none (.mv (.c (.bool false)))]
def c29r3 : List AStm := [.op (some 5) none (.mv (.c (.int .i64 0)))]
def c29r4 : List AStm := [.op (some 11) none (.mv (.t 5)),
    .op (some 12) none (.mv (.t 0)),
    .op (some 13) none (.len false (.t 12)),
    .op (some 14) none (.bin .lss (.t 11) (.t 13))]
def c29r5 : List AStm := [.op (some 17) none (.mv (.t 0)),
    .op (some 18) none (.mv (.t 5)),
    .op (some 19) none (.ixs 1 (.t 17) (.t 18)),
    .op (some 20) none (.load none (.t 19)),
    .op (some 21) none (.mv (.t 1)),
    .op (some 22) none (.mv (.t 5)),
    .op (some 23) none (.ixs 1 (.t 21) (.t 22)),
    .op (some 24) none (.load none (.t 23)),
    .op (some 25) none (.bin .neq (.t 20) (.t 24))]
def c29r6 : List AStm := []
def c29r7 : List AStm := [.op (some 4) none (.mv (.c (.bool false)))]
def c29r8 : List AStm := [.op (some 15) none (.mv (.t 5)),
    .op (some 16) none (.bin .add (.t 15) (.c (.int .i64 1))),
    .op (some 5) none (.mv (.t 16))]
def c29l9 : AC := .seq (.seq (.reg c29r4) (.cond (.t 14) (.skip) (.exit 0))) (.seq (.block 1 (.seq (.dreg c29r5 c29r6) (.cond (.t 25) (.seq (.reg c29r7) (.ret)) (.skip)))) (.reg c29r8))
def c29r10 : List AStm := [.op (some 4) none (.mv (.c (.bool true)))]
def c29 : CF := ⟨.seq (.reg c29r0) (.seq (.seq (.reg c29r1) (.cond (.t 10) (.seq (.reg c29r2) (.ret)) (.skip))) (.seq (.seq (.reg c29r3) (.block 0 (.loop c29l9))) (.seq (.reg c29r10) (.ret)))), [.tmp 4], 26⟩
theorem cf29 : cfun Try.prog 29 = some c29 := by kernel_rfl

/-! ### weighbridge/weighbridgeref18.Has, params 2 -/
def c26r0 : List AStm := [.op (some 4) none (.mv (.c (.bool false)))]
def c26r1 : List AStm := [.op (some 5) none (.mv (.t 1)),
    .op (some 6) none (.bin .lss (.t 5) (.c (.int .i64 0))),
    .op (some 7) none (.mv (.t 6)),
    .op (some 8) (some (7, false)) (.mv (.t 1)),
    .op (some 9) (some (7, false)) (.bin .quo (.t 8) (.c (.int .i64 64))),
    .op (some 10) (some (7, false)) (.mv (.t 0)),
    .op (some 11) (some (7, false)) (.len false (.t 10)),
    .op (some 12) (some (7, false)) (.bin .geq (.t 9) (.t 11)),
    .op (some 13) none (.pick (.t 7) (.c (.bool true)) (.t 12))]
def c26r2 : List AStm := [.op (some 4) none (.mv (.c (.bool false)))]
def c26r3 : List AStm := [.op (some 14) none (.mv (.t 0)),
    .op (some 15) none (.mv (.t 1)),
    .op (some 16) none (.bin .quo (.t 15) (.c (.int .i64 64))),
    .op (some 17) none (.ixs 1 (.t 14) (.t 16)),
    .op (some 18) none (.load none (.t 17)),
    .op (some 19) none (.mv (.t 1)),
    .op (some 20) none (.bin .rem (.t 19) (.c (.int .i64 64))),
    .call (some 21) none (.c (.fn (.func 45) [] [])) [(.t 18), (.t 20), (.c (.int .i64 1))],
    .op (some 22) none (.bin .eql (.t 21) (.c (.int .u64 1))),
    .op (some 4) none (.mv (.t 22))]
def c26 : CF := ⟨.seq (.reg c26r0) (.seq (.seq (.reg c26r1) (.cond (.t 13) (.seq (.reg c26r2) (.ret)) (.skip))) (.seq (.reg c26r3) (.ret))), [.tmp 4], 23⟩
theorem cf26 : cfun Try.prog 26 = some c26 := by kernel_rfl



theorem bit_fc (h : Heap) (n m : Nat) (hn : n < 18446744073709551616) (hm : m ≤ 1000) :
    FC Try.prog 48 [.int .u64 (n : Int), .int .i64 (m : Int)] h fun d h' => d = .int .u64 ((n / 2 ^ m % 2 : Nat) : Int) ∧ h' = h := by
  refine FC.goes cf48 ?_; simp only [c48]; simp only [List.length_cons, List.length_nil, Nat.reduceAdd, Nat.reduceSub, List.replicate_succ, List.replicate_zero, List.cons_append, List.nil_append]
  simp (disch := first | omega | (simp only [List.length_append, List.length_cons, List.length_nil]; omega)) only [c48r0, c48r1, c48r2, c48r3, c48l4, c48r5, go_sem, ↓reduceIte, reduceCtorEq, Nat.reduceAdd, Nat.reduceSub, Nat.reducePow, Nat.reduceMul, Nat.reduceEqDiff, Nat.reduceLT, Nat.reduceLeDiff, Int.reduceToNat, Int.reduceLT, Int.reduceLE, Int.reduceEq, Int.reduceNeg, Int.reduceAdd, Int.reduceSub, Int.reduceMul]
  refine loop_to m (fun k st => ∃ (v : Nat) (i : Nat), v = n / 2 ^ k ∧ i + k = m ∧ ∃ (j : Nat → D), st = ⟨(.int .u64 (v : Int) :: .int .i64 (i : Int) :: j 2 :: j 3 :: j 4 :: j 5 :: j 6 :: j 7 :: j 8 :: j 9 :: j 10 :: j 11 :: j 12 :: []), h⟩) ⟨n, m, by simp, by omega, junk rfl⟩ ?_
  rintro k st hk ⟨v, i, hv, hi, j, rfl⟩
  have hvl : v < 18446744073709551616 := by
    have : n / 2 ^ k ≤ n := Nat.div_le_self _ _
    omega
  by_cases hkm : k < m
  · have h0 : (0 : Int) < i := by omega
    have e1 : IntKind.u64.wrap ((v / 2 : Nat) : Int) = ((v / 2 : Nat) : Int) := w_u64 (by omega) (by omega)
    have e2 : IntKind.i64.wrap ((i : Int) - 1) = ((i - 1 : Nat) : Int) := by rw [w_i64 (by omega) (by omega)]; omega
    simp (disch := first | omega | (simp only [List.length_append, List.length_cons, List.length_nil]; omega)) only [c48r0, c48r1, c48r2, c48r3, c48l4, c48r5, h0, e1, e2, go_sem, ↓reduceIte, reduceCtorEq, Nat.reduceAdd, Nat.reduceSub, Nat.reducePow, Nat.reduceMul, Nat.reduceEqDiff, Nat.reduceLT, Nat.reduceLeDiff, Int.reduceToNat, Int.reduceLT, Int.reduceLE, Int.reduceEq, Int.reduceNeg, Int.reduceAdd, Int.reduceSub, Int.reduceMul]
    refine ⟨hkm, v / 2, i - 1, ?_, by omega, junk rfl⟩
    rw [hv, Nat.pow_succ, Nat.div_div_eq_div_mul]
  · have h0 : ¬ (0 : Int) < i := by omega
    have : k = m := by omega
    subst this
    have e1 : IntKind.u64.wrap ((v % 2 : Nat) : Int) = ((v % 2 : Nat) : Int) := w_u64 (by omega) (by omega)
    simp (disch := first | omega | (simp only [List.length_append, List.length_cons, List.length_nil]; omega)) only [c48r0, c48r1, c48r2, c48r3, c48l4, c48r5, h0, e1, go_sem, ↓reduceIte, reduceCtorEq, Nat.reduceAdd, Nat.reduceSub, Nat.reducePow, Nat.reduceMul, Nat.reduceEqDiff, Nat.reduceLT, Nat.reduceLeDiff, Int.reduceToNat, Int.reduceLT, Int.reduceLE, Int.reduceEq, Int.reduceNeg, Int.reduceAdd, Int.reduceSub, Int.reduceMul]
    rw [hv]
    exact FinOk.all ⟨rfl, rfl⟩

theorem are_fc (h : Heap) (m : Nat) (hm : m < 64) :
    FC Try.prog 47 [.int .i64 (m : Int), .int .i64 1] h fun d h' => d = .bool true ∧ h' = h := by
  refine FC.goes cf47 ?_; simp only [c47]; simp only [List.length_cons, List.length_nil, Nat.reduceAdd, Nat.reduceSub, List.replicate_succ, List.replicate_zero, List.cons_append, List.nil_append]
  have h1 : (0 : Int) ≤ m := by omega
  have h2 : (m : Int) ≤ 63 := by omega
  have e1 : IntKind.i64.wrap (64 - (m : Int)) = 64 - (m : Int) := w_i64 (by omega) (by omega)
  have h3 : (1 : Int) ≤ 64 - m := by omega
  simp (disch := first | omega | (simp only [List.length_append, List.length_cons, List.length_nil]; omega)) only [c47r0, c47r1, h1, h2, e1, h3, go_sem, ↓reduceIte, reduceCtorEq, Nat.reduceAdd, Nat.reduceSub, Nat.reducePow, Nat.reduceMul, Nat.reduceEqDiff, Nat.reduceLT, Nat.reduceLeDiff, Int.reduceToNat, Int.reduceLT, Int.reduceLE, Int.reduceEq, Int.reduceNeg, Int.reduceAdd, Int.reduceSub, Int.reduceMul]
  exact FinOk.all ⟨rfl, rfl⟩

theorem bitsR_fc (h : Heap) (n m : Nat) (hn : n < 18446744073709551616) (hm : m < 64) :
    FC Try.prog 45 [.int .u64 (n : Int), .int .i64 (m : Int), .int .i64 1] h fun d h' => d = .int .u64 ((n / 2 ^ m % 2 : Nat) : Int) ∧ h' = h := by
  refine FC.goes cf45 ?_; simp only [c45]; simp only [List.length_cons, List.length_nil, Nat.reduceAdd, Nat.reduceSub, List.replicate_succ, List.replicate_zero, List.cons_append, List.nil_append]
  simp (disch := first | omega | (simp only [List.length_append, List.length_cons, List.length_nil]; omega)) only [c45r0, c45r1, c45r2, c45r3, c45r4, c45r5, c45r6, c45r7, c45l8, c45r9, go_sem, ↓reduceIte, reduceCtorEq, Nat.reduceAdd, Nat.reduceSub, Nat.reducePow, Nat.reduceMul, Nat.reduceEqDiff, Nat.reduceLT, Nat.reduceLeDiff, Int.reduceToNat, Int.reduceLT, Int.reduceLE, Int.reduceEq, Int.reduceNeg, Int.reduceAdd, Int.reduceSub, Int.reduceMul]
  refine gfc_of (are_fc _ m hm) ?_
  rintro d h2 ⟨rfl, e⟩
  rw [e]
  simp (disch := first | omega | (simp only [List.length_append, List.length_cons, List.length_nil]; omega)) only [go_sem, ↓reduceIte, reduceCtorEq, Nat.reduceAdd, Nat.reduceSub, Nat.reducePow, Nat.reduceMul, Nat.reduceEqDiff, Nat.reduceLT, Nat.reduceLeDiff, Int.reduceToNat, Int.reduceLT, Int.reduceLE, Int.reduceEq, Int.reduceNeg, Int.reduceAdd, Int.reduceSub, Int.reduceMul]
  have hb : n / 2 ^ m % 2 < 2 := Nat.mod_lt _ (by omega)
  refine loop_to 1 (fun k st => ((k = 0 ∧ ∃ (j : Nat → D), st = ⟨(.int .u64 (n : Int) :: .int .i64 (m : Int) :: j 2 :: j 3 :: j 4 :: j 5 :: j 6 :: .int .u64 0 :: .int .i64 0 :: j 9 :: j 10 :: j 11 :: j 12 :: j 13 :: j 14 :: j 15 :: j 16 :: j 17 :: j 18 :: j 19 :: j 20 :: j 21 :: j 22 :: j 23 :: j 24 :: j 25 :: j 26 :: j 27 :: []), h⟩) ∨ (k = 1 ∧ ∃ (j : Nat → D), st = ⟨(.int .u64 (n : Int) :: .int .i64 (m : Int) :: j 2 :: j 3 :: j 4 :: j 5 :: j 6 :: .int .u64 ((n / 2 ^ m % 2 : Nat) : Int) :: .int .i64 (-1) :: j 9 :: j 10 :: j 11 :: j 12 :: j 13 :: j 14 :: j 15 :: j 16 :: j 17 :: j 18 :: j 19 :: j 20 :: j 21 :: j 22 :: j 23 :: j 24 :: j 25 :: j 26 :: j 27 :: []), h⟩))) (.inl ⟨rfl, junk rfl⟩) ?_
  rintro k st hk (⟨rfl, j, rfl⟩ | ⟨rfl, j, rfl⟩)
  · have e1 : IntKind.i64.wrap ((m : Int) + 0) = ((m : Nat) : Int) := by rw [w_i64 (by omega) (by omega)]; omega
    simp (disch := first | omega | (simp only [List.length_append, List.length_cons, List.length_nil]; omega)) only [c45r0, c45r1, c45r2, c45r3, c45r4, c45r5, c45r6, c45r7, c45l8, c45r9, e1, go_sem, ↓reduceIte, reduceCtorEq, Nat.reduceAdd, Nat.reduceSub, Nat.reducePow, Nat.reduceMul, Nat.reduceEqDiff, Nat.reduceLT, Nat.reduceLeDiff, Int.reduceToNat, Int.reduceLT, Int.reduceLE, Int.reduceEq, Int.reduceNeg, Int.reduceAdd, Int.reduceSub, Int.reduceMul]
    refine gfc_of (bit_fc _ n m hn (by omega)) ?_
    rintro d h2 ⟨rfl, e⟩
    rw [e]
    generalize n / 2 ^ m % 2 = b at *
    have e2 : IntKind.u64.wrap (0 + (b : Int)) = (b : Int) := by rw [w_u64 (by omega) (by omega)]; omega
    simp (disch := first | omega | (simp only [List.length_append, List.length_cons, List.length_nil]; omega)) only [e2, go_sem, ↓reduceIte, reduceCtorEq, Nat.reduceAdd, Nat.reduceSub, Nat.reducePow, Nat.reduceMul, Nat.reduceEqDiff, Nat.reduceLT, Nat.reduceLeDiff, Int.reduceToNat, Int.reduceLT, Int.reduceLE, Int.reduceEq, Int.reduceNeg, Int.reduceAdd, Int.reduceSub, Int.reduceMul]
    exact .inr (junk rfl)
  · simp (disch := first | omega | (simp only [List.length_append, List.length_cons, List.length_nil]; omega)) only [c45r0, c45r1, c45r2, c45r3, c45r4, c45r5, c45r6, c45r7, c45l8, c45r9, go_sem, ↓reduceIte, reduceCtorEq, Nat.reduceAdd, Nat.reduceSub, Nat.reducePow, Nat.reduceMul, Nat.reduceEqDiff, Nat.reduceLT, Nat.reduceLeDiff, Int.reduceToNat, Int.reduceLT, Int.reduceLE, Int.reduceEq, Int.reduceNeg, Int.reduceAdd, Int.reduceSub, Int.reduceMul]
    exact FinOk.all ⟨rfl, rfl⟩

theorem testBit_def (n i : Nat) : n.testBit i = decide (n / 2 ^ i % 2 = 1) := Nat.testBit_eq_decide_div_mod_eq
theorem or_bit (n m i : Nat) : (n ||| 2 ^ m) / 2 ^ i % 2 = if i = m then 1 else n / 2 ^ i % 2 := by
  have h := testBit_def (n ||| 2 ^ m) i
  rw [Nat.testBit_or, Nat.testBit_two_pow, testBit_def] at h
  have h1 := Nat.mod_two_eq_zero_or_one ((n ||| 2 ^ m) / 2 ^ i)
  have h2 := Nat.mod_two_eq_zero_or_one (n / 2 ^ i)
  by_cases e : i = m
  · subst e
    simp only [decide_true, Bool.or_true] at h
    have := of_decide_eq_true h.symm
    simp [this]
  · rw [if_neg e]
    have e' : ¬ m = i := fun h => e h.symm
    simp only [e', decide_false, Bool.or_false] at h
    rw [decide_eq_decide] at h
    omega
theorem bit_up (v i : Nat) : v / 2 ^ i = v / 2 ^ (i + 1) * 2 + v / 2 ^ i % 2 := by
  rw [Nat.pow_succ, ← Nat.div_div_eq_div_mul]; omega

theorem setBits_fc (h : Heap) (n m : Nat) (hn : n < 18446744073709551616) (hm : m < 64) :
    FC Try.prog 44 [.int .u64 (n : Int), .int .i64 (m : Int), .int .i64 1, .int .u64 1] h fun d h' => d = .int .u64 ((n ||| 2 ^ m : Nat) : Int) ∧ h' = h := by
  refine FC.goes cf44 ?_; simp only [c44]; simp only [List.length_cons, List.length_nil, Nat.reduceAdd, Nat.reduceSub, List.replicate_succ, List.replicate_zero, List.cons_append, List.nil_append]
  simp (disch := first | omega | (simp only [List.length_append, List.length_cons, List.length_nil]; omega)) only [c44r0, c44r1, c44r2, c44r3, c44r4, c44r5, c44r6, c44r7, c44r8, c44r9, c44l10, c44r11, go_sem, ↓reduceIte, reduceCtorEq, Nat.reduceAdd, Nat.reduceSub, Nat.reducePow, Nat.reduceMul, Nat.reduceEqDiff, Nat.reduceLT, Nat.reduceLeDiff, Int.reduceToNat, Int.reduceLT, Int.reduceLE, Int.reduceEq, Int.reduceNeg, Int.reduceAdd, Int.reduceSub, Int.reduceMul]
  refine gfc_of (are_fc _ m hm) ?_
  rintro d h2 ⟨rfl, e⟩
  rw [e]
  simp (disch := first | omega | (simp only [List.length_append, List.length_cons, List.length_nil]; omega)) only [go_sem, ↓reduceIte, reduceCtorEq, Nat.reduceAdd, Nat.reduceSub, Nat.reducePow, Nat.reduceMul, Nat.reduceEqDiff, Nat.reduceLT, Nat.reduceLeDiff, Int.reduceToNat, Int.reduceLT, Int.reduceLE, Int.reduceEq, Int.reduceNeg, Int.reduceAdd, Int.reduceSub, Int.reduceMul]
  have hp : 2 ^ m < 2 ^ 64 := Nat.pow_lt_pow_right (by omega) hm
  have hV : (n ||| 2 ^ m) < 2 ^ 64 := Nat.or_lt_two_pow (by omega) hp
  have hob := or_bit n m
  generalize hVe : (n ||| 2 ^ m) = V at *
  refine loop_to 64 (fun k st => ∃ (v : Nat), v = V / 2 ^ (64 - k) ∧ ∃ (j : Nat → D), st = ⟨(.int .u64 (n : Int) :: .int .i64 (m : Int) :: .int .i64 1 :: .int .u64 1 :: j 4 :: j 5 :: j 6 :: j 7 :: j 8 :: .int .u64 (v : Int) :: .int .i64 (63 - (k : Int)) :: j 11 :: j 12 :: j 13 :: j 14 :: j 15 :: j 16 :: j 17 :: j 18 :: j 19 :: j 20 :: j 21 :: j 22 :: j 23 :: j 24 :: j 25 :: j 26 :: j 27 :: j 28 :: j 29 :: j 30 :: j 31 :: j 32 :: j 33 :: j 34 :: j 35 :: j 36 :: j 37 :: j 38 :: j 39 :: j 40 :: j 41 :: j 42 :: j 43 :: j 44 :: []), h⟩) ⟨0, by rw [Nat.div_eq_of_lt hV], junk rfl⟩ ?_
  rintro k st hk ⟨v, hv, j, rfl⟩
  have hvl : v < 18446744073709551616 := by
    have : V / 2 ^ (64 - k) ≤ V := Nat.div_le_self _ _
    omega
  by_cases hk64 : k < 64
  · obtain ⟨i, hi⟩ : ∃ i, i + k = 63 := ⟨63 - k, by omega⟩
    have ei : (63 - (k : Int)) = (i : Int) := by omega
    have hup := bit_up V i
    rw [show 64 - k = i + 1 by omega] at hv
    rw [← hv, hob i] at hup
    have hvb : V / 2 ^ i < 18446744073709551616 := by
      have : V / 2 ^ i ≤ V := Nat.div_le_self _ _
      omega
    have hnb : n / 2 ^ i % 2 < 2 := Nat.mod_lt _ (by omega)
    have h0 : (0 : Int) ≤ i := by omega
    have e2 : IntKind.i64.wrap ((m : Int) + 1) = (m : Int) + 1 := w_i64 (by omega) (by omega)
    rw [ei]
    by_cases him : i = m
    · subst him
      have h3 : (i : Int) < (i : Int) + 1 := by omega
      have e3 : IntKind.u64.wrap ((v : Int) * 2) = ((v * 2 : Nat) : Int) := by rw [w_u64 (by omega) (by omega)]; omega
      have e4 : IntKind.i64.wrap ((i : Int) - i) = 0 := by rw [w_i64 (by omega) (by omega)]; omega
      simp (disch := first | omega | (simp only [List.length_append, List.length_cons, List.length_nil]; omega)) only [c44r0, c44r1, c44r2, c44r3, c44r4, c44r5, c44r6, c44r7, c44r8, c44r9, c44l10, c44r11, h0, Int.le_refl, e2, h3, e3, e4, go_sem, ↓reduceIte, reduceCtorEq, Nat.reduceAdd, Nat.reduceSub, Nat.reducePow, Nat.reduceMul, Nat.reduceEqDiff, Nat.reduceLT, Nat.reduceLeDiff, Int.reduceToNat, Int.reduceLT, Int.reduceLE, Int.reduceEq, Int.reduceNeg, Int.reduceAdd, Int.reduceSub, Int.reduceMul]
      refine gfc_of (bit_fc _ 1 0 (by omega) (by omega)) ?_
      rintro d h2 ⟨rfl, e⟩
      rw [e]
      have e5 : IntKind.u64.wrap (((v * 2 : Nat) : Int) + ((1 / 2 ^ 0 % 2 : Nat) : Int)) = ((V / 2 ^ i : Nat) : Int) := by
        rw [if_pos rfl] at hup
        rw [show 1 / 2 ^ 0 % 2 = 1 by decide, w_u64 (by omega) (by omega)]; omega
      have e6 : IntKind.i64.wrap ((i : Int) - 1) = 63 - ((k + 1 : Nat) : Int) := by rw [w_i64 (by omega) (by omega)]; omega
      simp (disch := first | omega | (simp only [List.length_append, List.length_cons, List.length_nil]; omega)) only [e5, e6, go_sem, ↓reduceIte, reduceCtorEq, Nat.reduceAdd, Nat.reduceSub, Nat.reducePow, Nat.reduceMul, Nat.reduceEqDiff, Nat.reduceLT, Nat.reduceLeDiff, Int.reduceToNat, Int.reduceLT, Int.reduceLE, Int.reduceEq, Int.reduceNeg, Int.reduceAdd, Int.reduceSub, Int.reduceMul]
      refine ⟨hk64, V / 2 ^ i, by rw [show 64 - (k + 1) = i by omega], junk rfl⟩
    · have e3 : IntKind.u64.wrap ((v : Int) * 2) = ((v * 2 : Nat) : Int) := by rw [w_u64 (by omega) (by omega)]; omega
      have e5 : IntKind.u64.wrap (((v * 2 : Nat) : Int) + ((n / 2 ^ i % 2 : Nat) : Int)) = ((V / 2 ^ i : Nat) : Int) := by
        rw [if_neg him] at hup
        rw [w_u64 (by omega) (by omega)]; omega
      have e6 : IntKind.i64.wrap ((i : Int) - 1) = 63 - ((k + 1 : Nat) : Int) := by rw [w_i64 (by omega) (by omega)]; omega
      by_cases hlt : (m : Int) ≤ i
      · have h3 : ¬ (i : Int) < (m : Int) + 1 := by omega
        simp (disch := first | omega | (simp only [List.length_append, List.length_cons, List.length_nil]; omega)) only [c44r0, c44r1, c44r2, c44r3, c44r4, c44r5, c44r6, c44r7, c44r8, c44r9, c44l10, c44r11, h0, hlt, e2, h3, e3, go_sem, ↓reduceIte, reduceCtorEq, Nat.reduceAdd, Nat.reduceSub, Nat.reducePow, Nat.reduceMul, Nat.reduceEqDiff, Nat.reduceLT, Nat.reduceLeDiff, Int.reduceToNat, Int.reduceLT, Int.reduceLE, Int.reduceEq, Int.reduceNeg, Int.reduceAdd, Int.reduceSub, Int.reduceMul]
        refine gfc_of (bit_fc _ n i hn (by omega)) ?_
        rintro d h2 ⟨rfl, e⟩
        rw [e]
        simp (disch := first | omega | (simp only [List.length_append, List.length_cons, List.length_nil]; omega)) only [e5, e6, go_sem, ↓reduceIte, reduceCtorEq, Nat.reduceAdd, Nat.reduceSub, Nat.reducePow, Nat.reduceMul, Nat.reduceEqDiff, Nat.reduceLT, Nat.reduceLeDiff, Int.reduceToNat, Int.reduceLT, Int.reduceLE, Int.reduceEq, Int.reduceNeg, Int.reduceAdd, Int.reduceSub, Int.reduceMul]
        first
          | exact ⟨hk64, V / 2 ^ i, by rw [show 64 - (k + 1) = i by omega], junk rfl⟩
          | exact ⟨V / 2 ^ i, by rw [show 64 - (k + 1) = i by omega], junk rfl⟩
      · simp (disch := first | omega | (simp only [List.length_append, List.length_cons, List.length_nil]; omega)) only [c44r0, c44r1, c44r2, c44r3, c44r4, c44r5, c44r6, c44r7, c44r8, c44r9, c44l10, c44r11, h0, hlt, e2, e3, go_sem, ↓reduceIte, reduceCtorEq, Nat.reduceAdd, Nat.reduceSub, Nat.reducePow, Nat.reduceMul, Nat.reduceEqDiff, Nat.reduceLT, Nat.reduceLeDiff, Int.reduceToNat, Int.reduceLT, Int.reduceLE, Int.reduceEq, Int.reduceNeg, Int.reduceAdd, Int.reduceSub, Int.reduceMul]
        refine gfc_of (bit_fc _ n i hn (by omega)) ?_
        rintro d h2 ⟨rfl, e⟩
        rw [e]
        simp (disch := first | omega | (simp only [List.length_append, List.length_cons, List.length_nil]; omega)) only [e5, e6, go_sem, ↓reduceIte, reduceCtorEq, Nat.reduceAdd, Nat.reduceSub, Nat.reducePow, Nat.reduceMul, Nat.reduceEqDiff, Nat.reduceLT, Nat.reduceLeDiff, Int.reduceToNat, Int.reduceLT, Int.reduceLE, Int.reduceEq, Int.reduceNeg, Int.reduceAdd, Int.reduceSub, Int.reduceMul]
        refine ⟨hk64, V / 2 ^ i, by rw [show 64 - (k + 1) = i by omega], junk rfl⟩
  · have : k = 64 := by omega
    subst this
    have h0 : ¬ (0 : Int) ≤ 63 - ((64 : Nat) : Int) := by omega
    simp (disch := first | omega | (simp only [List.length_append, List.length_cons, List.length_nil]; omega)) only [c44r0, c44r1, c44r2, c44r3, c44r4, c44r5, c44r6, c44r7, c44r8, c44r9, c44l10, c44r11, h0, go_sem, ↓reduceIte, reduceCtorEq, Nat.reduceAdd, Nat.reduceSub, Nat.reducePow, Nat.reduceMul, Nat.reduceEqDiff, Nat.reduceLT, Nat.reduceLeDiff, Int.reduceToNat, Int.reduceLT, Int.reduceLE, Int.reduceEq, Int.reduceNeg, Int.reduceAdd, Int.reduceSub, Int.reduceMul]
    have : v = V := by rw [hv]; simp
    rw [this]
    exact FinOk.all ⟨rfl, rfl⟩

/-! ### Same, SameInts -/
theorem same_fc (h : Heap) (x y : D) (us vs : List Nat) (s : SlOf h 1 x (u64s us) us.length) (t : SlOf h 1 y (u64s vs) vs.length) (hlen : us.length ≤ 1048576) (hlen2 : vs.length ≤ 1048576) :
    FC Try.prog 12 [x, y] h fun d h' => d = .bool (decide (us = vs)) ∧ h' = h := by
  refine FC.goes cf12 ?_; simp only [c12]; simp only [List.length_cons, List.length_nil, Nat.reduceAdd, Nat.reduceSub, List.replicate_succ, List.replicate_zero, List.cons_append, List.nil_append]
  by_cases hl : us.length = vs.length
  · have hl' : (us.length : Int) = vs.length := by omega
    simp (disch := first | omega | (simp only [List.length_append, List.length_cons, List.length_nil]; omega)) only [c12r0, c12r1, c12r2, c12r3, c12r4, c12r5, c12r6, c12r7, c12r8, c12l9, c12r10, s.lend, s.sort, t.lend, t.sort, hl', go_sem, ↓reduceIte, reduceCtorEq, Nat.reduceAdd, Nat.reduceSub, Nat.reducePow, Nat.reduceMul, Nat.reduceEqDiff, Nat.reduceLT, Nat.reduceLeDiff, Int.reduceToNat, Int.reduceLT, Int.reduceLE, Int.reduceEq, Int.reduceNeg, Int.reduceAdd, Int.reduceSub, Int.reduceMul]
    refine loop_to us.length (fun k st => (∀ i < k, us[i]? = vs[i]?) ∧ ∃ (j : Nat → D), st = ⟨(x :: y :: j 2 :: j 3 :: j 4 :: .int .i64 (k : Int) :: j 6 :: j 7 :: j 8 :: j 9 :: j 10 :: j 11 :: j 12 :: j 13 :: j 14 :: j 15 :: j 16 :: j 17 :: j 18 :: j 19 :: j 20 :: j 21 :: j 22 :: j 23 :: j 24 :: j 25 :: []), h⟩) ⟨fun i hi => absurd hi (by omega), junk rfl⟩ ?_
    rintro k st hk ⟨hp, j, rfl⟩
    by_cases hkn : k < us.length
    · have hkn' : (k : Int) < vs.length := by omega
      obtain ⟨p, cs, e1, e2, e3⟩ := s.elem (k := .i64) (i := (k : Int)) (by omega) (by omega)
      have e4 := e3 0 (by omega)
      rw [show ((k : Int).toNat * 1 + 0) = k by omega, u64s_get hkn] at e4
      obtain ⟨p', cs', e1', e2', e3'⟩ := t.elem (k := .i64) (i := (k : Int)) (by omega) (by omega)
      have e4' := e3' 0 (by omega)
      rw [show ((k : Int).toNat * 1 + 0) = k by omega, u64s_get (by omega)] at e4'
      have g1 : us[k]? = some (us.getD k 0) := by simp [List.getD_eq_getElem?_getD, List.getElem?_eq_getElem hkn]
      have g2 : vs[k]? = some (vs.getD k 0) := by simp [List.getD_eq_getElem?_getD, List.getElem?_eq_getElem (by omega : k < vs.length)]
      generalize us.getD k 0 = a at *
      generalize vs.getD k 0 = b at *
      have e5 : IntKind.i64.wrap ((k : Int) + 1) = ((k + 1 : Nat) : Int) := by rw [w_i64 (by omega) (by omega)]; omega
      by_cases hab : a = b
      · have hab' : (a : Int) = (b : Int) := by omega
        simp (disch := first | omega | (simp only [List.length_append, List.length_cons, List.length_nil]; omega)) only [c12r0, c12r1, c12r2, c12r3, c12r4, c12r5, c12r6, c12r7, c12r8, c12l9, c12r10, s.lend, s.sort, hl', hkn', e1, e2, e4, e1', e2', e4', hab', e5, go_sem, ↓reduceIte, reduceCtorEq, Nat.reduceAdd, Nat.reduceSub, Nat.reducePow, Nat.reduceMul, Nat.reduceEqDiff, Nat.reduceLT, Nat.reduceLeDiff, Int.reduceToNat, Int.reduceLT, Int.reduceLE, Int.reduceEq, Int.reduceNeg, Int.reduceAdd, Int.reduceSub, Int.reduceMul]
        refine ⟨hkn, fun i hi => ?_, junk rfl⟩
        by_cases hik : i = k
        · subst hik; rw [g1, g2, hab]
        · exact hp i (by omega)
      · have hab' : ¬ (a : Int) = (b : Int) := by omega
        simp (disch := first | omega | (simp only [List.length_append, List.length_cons, List.length_nil]; omega)) only [c12r0, c12r1, c12r2, c12r3, c12r4, c12r5, c12r6, c12r7, c12r8, c12l9, c12r10, s.lend, s.sort, hl', hkn', e1, e2, e4, e1', e2', e4', hab', go_sem, ↓reduceIte, reduceCtorEq, Nat.reduceAdd, Nat.reduceSub, Nat.reducePow, Nat.reduceMul, Nat.reduceEqDiff, Nat.reduceLT, Nat.reduceLeDiff, Int.reduceToNat, Int.reduceLT, Int.reduceLE, Int.reduceEq, Int.reduceNeg, Int.reduceAdd, Int.reduceSub, Int.reduceMul]
        refine FinOk.all ⟨congrArg D.bool ?_, rfl⟩
        refine (decide_eq_false fun he => hab ?_).symm
        rw [he, g2] at g1
        exact (Option.some.inj g1).symm
    · have hkn' : ¬ (k : Int) < vs.length := by omega
      simp (disch := first | omega | (simp only [List.length_append, List.length_cons, List.length_nil]; omega)) only [c12r0, c12r1, c12r2, c12r3, c12r4, c12r5, c12r6, c12r7, c12r8, c12l9, c12r10, s.lend, s.sort, hl', hkn', go_sem, ↓reduceIte, reduceCtorEq, Nat.reduceAdd, Nat.reduceSub, Nat.reducePow, Nat.reduceMul, Nat.reduceEqDiff, Nat.reduceLT, Nat.reduceLeDiff, Int.reduceToNat, Int.reduceLT, Int.reduceLE, Int.reduceEq, Int.reduceNeg, Int.reduceAdd, Int.reduceSub, Int.reduceMul]
      refine FinOk.all ⟨congrArg D.bool ?_, rfl⟩
      refine (decide_eq_true (List.ext_getElem? fun i => ?_)).symm
      by_cases hi : i < k
      · exact hp i hi
      · rw [List.getElem?_eq_none (by omega), List.getElem?_eq_none (by omega)]
  · have hl' : ¬ (us.length : Int) = vs.length := by omega
    simp (disch := first | omega | (simp only [List.length_append, List.length_cons, List.length_nil]; omega)) only [c12r0, c12r1, c12r2, c12r3, c12r4, c12r5, c12r6, c12r7, c12r8, c12l9, c12r10, s.lend, s.sort, t.lend, t.sort, hl', go_sem, ↓reduceIte, reduceCtorEq, Nat.reduceAdd, Nat.reduceSub, Nat.reducePow, Nat.reduceMul, Nat.reduceEqDiff, Nat.reduceLT, Nat.reduceLeDiff, Int.reduceToNat, Int.reduceLT, Int.reduceLE, Int.reduceEq, Int.reduceNeg, Int.reduceAdd, Int.reduceSub, Int.reduceMul]
    exact FinOk.all ⟨congrArg D.bool (by simp; intro he; exact hl (congrArg _ he)), rfl⟩

theorem i64s_get {ws : List Nat} {k : Nat} (h : k < ws.length) : (i64s ws)[k]? = some (.int .i64 ((ws.getD k 0 : Nat) : Int)) := by
  simp [i64s, List.getD_eq_getElem?_getD, List.getElem?_eq_getElem h]
theorem sameInts_fc (h : Heap) (x y : D) (us vs : List Nat) (s : SlOf h 1 x (i64s us) us.length) (t : SlOf h 1 y (i64s vs) vs.length) (hlen : us.length ≤ 1073741824) (hlen2 : vs.length ≤ 1073741824) :
    FC Try.prog 29 [x, y] h fun d h' => d = .bool (decide (us = vs)) ∧ h' = h := by
  refine FC.goes cf29 ?_; simp only [c29]; simp only [List.length_cons, List.length_nil, Nat.reduceAdd, Nat.reduceSub, List.replicate_succ, List.replicate_zero, List.cons_append, List.nil_append]
  by_cases hl : us.length = vs.length
  · have hl' : (us.length : Int) = vs.length := by omega
    simp (disch := first | omega | (simp only [List.length_append, List.length_cons, List.length_nil]; omega)) only [c29r0, c29r1, c29r2, c29r3, c29r4, c29r5, c29r6, c29r7, c29r8, c29l9, c29r10, s.lend, s.sort, t.lend, t.sort, hl', go_sem, ↓reduceIte, reduceCtorEq, Nat.reduceAdd, Nat.reduceSub, Nat.reducePow, Nat.reduceMul, Nat.reduceEqDiff, Nat.reduceLT, Nat.reduceLeDiff, Int.reduceToNat, Int.reduceLT, Int.reduceLE, Int.reduceEq, Int.reduceNeg, Int.reduceAdd, Int.reduceSub, Int.reduceMul]
    refine loop_to us.length (fun k st => (∀ i < k, us[i]? = vs[i]?) ∧ ∃ (j : Nat → D), st = ⟨(x :: y :: j 2 :: j 3 :: j 4 :: .int .i64 (k : Int) :: j 6 :: j 7 :: j 8 :: j 9 :: j 10 :: j 11 :: j 12 :: j 13 :: j 14 :: j 15 :: j 16 :: j 17 :: j 18 :: j 19 :: j 20 :: j 21 :: j 22 :: j 23 :: j 24 :: j 25 :: []), h⟩) ⟨fun i hi => absurd hi (by omega), junk rfl⟩ ?_
    rintro k st hk ⟨hp, j, rfl⟩
    by_cases hkn : k < us.length
    · have hkn' : (k : Int) < vs.length := by omega
      obtain ⟨p, cs, e1, e2, e3⟩ := s.elem (k := .i64) (i := (k : Int)) (by omega) (by omega)
      have e4 := e3 0 (by omega)
      rw [show ((k : Int).toNat * 1 + 0) = k by omega, i64s_get hkn] at e4
      obtain ⟨p', cs', e1', e2', e3'⟩ := t.elem (k := .i64) (i := (k : Int)) (by omega) (by omega)
      have e4' := e3' 0 (by omega)
      rw [show ((k : Int).toNat * 1 + 0) = k by omega, i64s_get (by omega)] at e4'
      have g1 : us[k]? = some (us.getD k 0) := by simp [List.getD_eq_getElem?_getD, List.getElem?_eq_getElem hkn]
      have g2 : vs[k]? = some (vs.getD k 0) := by simp [List.getD_eq_getElem?_getD, List.getElem?_eq_getElem (by omega : k < vs.length)]
      generalize us.getD k 0 = a at *
      generalize vs.getD k 0 = b at *
      have e5 : IntKind.i64.wrap ((k : Int) + 1) = ((k + 1 : Nat) : Int) := by rw [w_i64 (by omega) (by omega)]; omega
      by_cases hab : a = b
      · have hab' : (a : Int) = (b : Int) := by omega
        simp (disch := first | omega | (simp only [List.length_append, List.length_cons, List.length_nil]; omega)) only [c29r0, c29r1, c29r2, c29r3, c29r4, c29r5, c29r6, c29r7, c29r8, c29l9, c29r10, s.lend, s.sort, hl', hkn', e1, e2, e4, e1', e2', e4', hab', e5, go_sem, ↓reduceIte, reduceCtorEq, Nat.reduceAdd, Nat.reduceSub, Nat.reducePow, Nat.reduceMul, Nat.reduceEqDiff, Nat.reduceLT, Nat.reduceLeDiff, Int.reduceToNat, Int.reduceLT, Int.reduceLE, Int.reduceEq, Int.reduceNeg, Int.reduceAdd, Int.reduceSub, Int.reduceMul]
        refine ⟨hkn, fun i hi => ?_, junk rfl⟩
        by_cases hik : i = k
        · subst hik; rw [g1, g2, hab]
        · exact hp i (by omega)
      · have hab' : ¬ (a : Int) = (b : Int) := by omega
        simp (disch := first | omega | (simp only [List.length_append, List.length_cons, List.length_nil]; omega)) only [c29r0, c29r1, c29r2, c29r3, c29r4, c29r5, c29r6, c29r7, c29r8, c29l9, c29r10, s.lend, s.sort, hl', hkn', e1, e2, e4, e1', e2', e4', hab', go_sem, ↓reduceIte, reduceCtorEq, Nat.reduceAdd, Nat.reduceSub, Nat.reducePow, Nat.reduceMul, Nat.reduceEqDiff, Nat.reduceLT, Nat.reduceLeDiff, Int.reduceToNat, Int.reduceLT, Int.reduceLE, Int.reduceEq, Int.reduceNeg, Int.reduceAdd, Int.reduceSub, Int.reduceMul]
        refine FinOk.all ⟨congrArg D.bool ?_, rfl⟩
        refine (decide_eq_false fun he => hab ?_).symm
        rw [he, g2] at g1
        exact (Option.some.inj g1).symm
    · have hkn' : ¬ (k : Int) < vs.length := by omega
      simp (disch := first | omega | (simp only [List.length_append, List.length_cons, List.length_nil]; omega)) only [c29r0, c29r1, c29r2, c29r3, c29r4, c29r5, c29r6, c29r7, c29r8, c29l9, c29r10, s.lend, s.sort, hl', hkn', go_sem, ↓reduceIte, reduceCtorEq, Nat.reduceAdd, Nat.reduceSub, Nat.reducePow, Nat.reduceMul, Nat.reduceEqDiff, Nat.reduceLT, Nat.reduceLeDiff, Int.reduceToNat, Int.reduceLT, Int.reduceLE, Int.reduceEq, Int.reduceNeg, Int.reduceAdd, Int.reduceSub, Int.reduceMul]
      refine FinOk.all ⟨congrArg D.bool ?_, rfl⟩
      refine (decide_eq_true (List.ext_getElem? fun i => ?_)).symm
      by_cases hi : i < k
      · exact hp i hi
      · rw [List.getElem?_eq_none (by omega), List.getElem?_eq_none (by omega)]
  · have hl' : ¬ (us.length : Int) = vs.length := by omega
    simp (disch := first | omega | (simp only [List.length_append, List.length_cons, List.length_nil]; omega)) only [c29r0, c29r1, c29r2, c29r3, c29r4, c29r5, c29r6, c29r7, c29r8, c29l9, c29r10, s.lend, s.sort, t.lend, t.sort, hl', go_sem, ↓reduceIte, reduceCtorEq, Nat.reduceAdd, Nat.reduceSub, Nat.reducePow, Nat.reduceMul, Nat.reduceEqDiff, Nat.reduceLT, Nat.reduceLeDiff, Int.reduceToNat, Int.reduceLT, Int.reduceLE, Int.reduceEq, Int.reduceNeg, Int.reduceAdd, Int.reduceSub, Int.reduceMul]
    exact FinOk.all ⟨congrArg D.bool (by simp; intro he; exact hl (congrArg _ he)), rfl⟩

/-! ### Has -/
theorem hasRef_fc (h : Heap) (row : D) (ws : List Nat) (s : SlOf h 1 row (u64s ws) ws.length) (hlen : ws.length ≤ 1048576) (hw : ∀ w ∈ ws, w < 18446744073709551616) (i : Int) (h0 : -9223372036854775808 ≤ i) (h1 : i < 9223372036854775808) :
    FC Try.prog 26 [row, .int .i64 i] h fun d h' => d = .bool (hasR ws i) ∧ h' = h := by
  refine FC.goes cf26 ?_; simp only [c26]; simp only [List.length_cons, List.length_nil, Nat.reduceAdd, Nat.reduceSub, List.replicate_succ, List.replicate_zero, List.cons_append, List.nil_append]
  by_cases hi : i < 0
  · simp (disch := first | omega | (simp only [List.length_append, List.length_cons, List.length_nil]; omega)) only [c26r0, c26r1, c26r2, c26r3, hi, go_sem, ↓reduceIte, reduceCtorEq, Nat.reduceAdd, Nat.reduceSub, Nat.reducePow, Nat.reduceMul, Nat.reduceEqDiff, Nat.reduceLT, Nat.reduceLeDiff, Int.reduceToNat, Int.reduceLT, Int.reduceLE, Int.reduceEq, Int.reduceNeg, Int.reduceAdd, Int.reduceSub, Int.reduceMul]
    refine FinOk.all ⟨congrArg D.bool ?_, rfl⟩
    have : ¬ (0 ≤ i) := by omega
    simp [hasR, insR, this]
  · obtain ⟨m, rfl⟩ := Int.eq_ofNat_of_zero_le (by omega : 0 ≤ i)
    have e2 : ((m : Int)).toNat = m := rfl
    have e1 : IntKind.i64.wrap ((m / 64 : Nat) : Int) = ((m / 64 : Nat) : Int) := w_i64 (by omega) (by omega)
    have e5 : IntKind.i64.wrap ((m % 64 : Nat) : Int) = ((m % 64 : Nat) : Int) := w_i64 (by omega) (by omega)
    by_cases hlt : m / 64 < ws.length
    · have hlt' : ¬ (ws.length : Int) ≤ ((m / 64 : Nat) : Int) := by omega
      obtain ⟨p, cs, q1, q2, q3⟩ := s.elem (k := .i64) (i := ((m / 64 : Nat) : Int)) (by omega) (by omega)
      have q4 := q3 0 (by omega)
      rw [show ((((m / 64 : Nat) : Int)).toNat * 1 + 0) = m / 64 by omega, u64s_get hlt] at q4
      have hwk : ws.getD (m / 64) 0 < 18446744073709551616 := hw _ (by simp [List.getD_eq_getElem?_getD, List.getElem?_eq_getElem hlt])
      simp (disch := first | omega | (simp only [List.length_append, List.length_cons, List.length_nil]; omega)) only [c26r0, c26r1, c26r2, c26r3, hi, e1, e5, s.lend, s.sort, hlt', q1, q2, q4, go_sem, ↓reduceIte, reduceCtorEq, Nat.reduceAdd, Nat.reduceSub, Nat.reducePow, Nat.reduceMul, Nat.reduceEqDiff, Nat.reduceLT, Nat.reduceLeDiff, Int.reduceToNat, Int.reduceLT, Int.reduceLE, Int.reduceEq, Int.reduceNeg, Int.reduceAdd, Int.reduceSub, Int.reduceMul]
      refine gfc_of (bitsR_fc _ _ (m % 64) hwk (by omega)) ?_
      rintro d h2 ⟨rfl, e⟩
      rw [e]
      simp (disch := first | omega | (simp only [List.length_append, List.length_cons, List.length_nil]; omega)) only [go_sem, ↓reduceIte, reduceCtorEq, Nat.reduceAdd, Nat.reduceSub, Nat.reducePow, Nat.reduceMul, Nat.reduceEqDiff, Nat.reduceLT, Nat.reduceLeDiff, Int.reduceToNat, Int.reduceLT, Int.reduceLE, Int.reduceEq, Int.reduceNeg, Int.reduceAdd, Int.reduceSub, Int.reduceMul]
      refine FinOk.all ⟨congrArg D.bool ?_, rfl⟩
      have hb : hasB ws m = decide ((ws.getD (m / 64) 0) / 2 ^ (m % 64) % 2 = 1) := rfl
      have hi : insR ws.length (m : Int) = true := by simp [insR, e2, hlt]
      rw [hasR, hi, e2, hb, Bool.true_and]
      generalize (ws.getD (m / 64) 0) / 2 ^ (m % 64) % 2 = b at *
      exact decide_eq_decide.2 (by omega)
    · have hlt' : (ws.length : Int) ≤ ((m / 64 : Nat) : Int) := by omega
      simp (disch := first | omega | (simp only [List.length_append, List.length_cons, List.length_nil]; omega)) only [c26r0, c26r1, c26r2, c26r3, hi, e1, s.lend, s.sort, hlt', go_sem, ↓reduceIte, reduceCtorEq, Nat.reduceAdd, Nat.reduceSub, Nat.reducePow, Nat.reduceMul, Nat.reduceEqDiff, Nat.reduceLT, Nat.reduceLeDiff, Int.reduceToNat, Int.reduceLT, Int.reduceLE, Int.reduceEq, Int.reduceNeg, Int.reduceAdd, Int.reduceSub, Int.reduceMul]
      refine FinOk.all ⟨congrArg D.bool ?_, rfl⟩
      simp [hasR, insR, e2, hlt]
end Go.Proofs
