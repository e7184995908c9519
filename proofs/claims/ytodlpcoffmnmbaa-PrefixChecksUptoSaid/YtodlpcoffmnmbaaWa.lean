/-
  Own work. The walks of wide: Of, Less, twice, Sub.
-/
import Derived.Test.YtodlpcoffmnmbaaW0
namespace Go.Proofs
open Go Go.Ytodlpcoffmnmbaa
set_option linter.unusedVariables false
set_option linter.unusedSimpArgs false
set_option maxRecDepth 10000

/-! ### weighbridge/wide.Of, params 1 -/
def c70r0 : List AStm := [.op (some 2) none (.alloc [(.int .u64 0), (.int .u64 0)])]
def c70r1 : List AStm := [.op (some 3) none (.mv (.t 0)),
    .op (some 4) none (.build [(.int .u64 0), (.int .u64 0)] [(1, 1, (.t 3))]),
    .op none none (.store 2 (.t 2) (.t 4))]
def c70 : CF := ⟨.seq (.reg c70r0) (.seq (.reg c70r1) (.ret)), [.cell 2 (some 2)], 5⟩
theorem cf70 : cfun Try.prog 70 = some c70 := by kernel_rfl

/-! ### weighbridge/wide.Less, params 2 -/
def c104r0 : List AStm := [.op (some 2) none (.box (.t 0)),
    .op (some 3) none (.box (.t 1)),
    .op (some 4) none (.mv (.c (.bool false)))]
def c104r1 : List AStm := [.op (some 5) none (.faddr 0 (.t 2)),
    .op (some 6) none (.load none (.t 5)),
    .op (some 7) none (.faddr 0 (.t 3)),
    .op (some 8) none (.load none (.t 7)),
    .op (some 9) none (.bin .neq (.t 6) (.t 8))]
def c104r2 : List AStm := [.op (some 10) none (.faddr 0 (.t 2)),
    .op (some 11) none (.load none (.t 10)),
    .op (some 12) none (.faddr 0 (.t 3)),
    .op (some 13) none (.load none (.t 12)),
    .op (some 14) none (.bin .lss (.t 11) (.t 13)),
    .op (some 4) none (.mv (.t 14))]
def c104r3 : List AStm := [.op (some 15) none (.faddr 1 (.t 2)),
    .op (some 16) none (.load none (.t 15)),
    .op (some 17) none (.faddr 1 (.t 3)),
    .op (some 18) none (.load none (.t 17)),
    .op (some 19) none (.bin .lss (.t 16) (.t 18)),
    .op (some 4) none (.mv (.t 19))]
def c104 : CF := ⟨.seq (.reg c104r0) (.seq (.seq (.reg c104r1) (.cond (.t 9) (.seq (.reg c104r2) (.ret)) (.skip))) (.seq (.reg c104r3) (.ret))), [.tmp 4], 20⟩
theorem cf104 : cfun Try.prog 104 = some c104 := by kernel_rfl

/-! ### weighbridge/wide.twice, params 2 -/
def c103r0 : List AStm := [.op (some 2) none (.box (.t 0)),
    .op (some 4) none (.alloc [(.int .u64 0), (.int .u64 0)])]
def c103r1 : List AStm := [.op (some 5) none (.faddr 0 (.t 2)),
    .op (some 6) none (.load none (.t 5)),
    .op (some 7) none (.bin .shl (.t 6) (.c (.int .u64 1))),
    .op (some 8) none (.faddr 1 (.t 2)),
    .op (some 9) none (.load none (.t 8)),
    .op (some 10) none (.bin .shr (.t 9) (.c (.int .u64 63))),
    .op (some 11) none (.bin .or (.t 7) (.t 10)),
    .op (some 12) none (.faddr 1 (.t 2)),
    .op (some 13) none (.load none (.t 12)),
    .op (some 14) none (.bin .shl (.t 13) (.c (.int .u64 1))),
    .op (some 15) none (.mv (.t 1)),
    .op (some 16) none (.bin .or (.t 14) (.t 15)),
    .op (some 17) none (.build [(.int .u64 0), (.int .u64 0)] [(0, 1, (.t 11)), (1, 1, (.t 16))]),
    .op none none (.store 2 (.t 4) (.t 17))]
def c103 : CF := ⟨.seq (.reg c103r0) (.seq (.reg c103r1) (.ret)), [.cell 4 (some 2)], 18⟩
theorem cf103 : cfun Try.prog 103 = some c103 := by kernel_rfl

/-! ### weighbridge/wide.Sub, params 2 -/
def c105r0 : List AStm := [.op (some 2) none (.box (.t 0)),
    .op (some 3) none (.box (.t 1)),
    .op (some 4) none (.alloc [(.int .u64 0), (.int .u64 0)]),
    .op (some 5) none (.mv (.c (.bool false)))]
def c105r1 : List AStm := [.op (some 7) none (.faddr 0 (.t 2)),
    .op (some 8) none (.load none (.t 7)),
    .op (some 9) none (.faddr 0 (.t 3)),
    .op (some 10) none (.load none (.t 9)),
    .op (some 11) none (.bin .sub (.t 8) (.t 10)),
    .op (some 12) none (.faddr 1 (.t 2)),
    .op (some 13) none (.load none (.t 12)),
    .op (some 14) none (.faddr 1 (.t 3)),
    .op (some 15) none (.load none (.t 14)),
    .op (some 16) none (.bin .sub (.t 13) (.t 15)),
    .op (some 17) none (.build [(.int .u64 0), (.int .u64 0)] [(0, 1, (.t 11)), (1, 1, (.t 16))]),
    .op (some 6) none (.alloc [(.int .u64 0), (.int .u64 0)]),
    .op none none (.store 2 (.t 6) (.t 17))]
def c105r2 : List AStm := [.op (some 18) none (.faddr 1 (.t 2)),
    .op (some 19) none (.load none (.t 18)),
    .op (some 20) none (.faddr 1 (.t 3)),
    .op (some 21) none (.load none (.t 20)),
    .op (some 22) none (.bin .lss (.t 19) (.t 21))]
def c105r3 : List AStm := [.op (some 23) none (.faddr 0 (.t 6)),
    .op (some 24) none (.load none (.t 23)),
    .op (some 25) none (.bin .sub (.t 24) (.c (.int .u64 1))),
    .op (some 26) none (.faddr 0 (.t 6)),
    .op none none (.store 1 (.t 26) (.t 25))]
def c105r4 : List AStm := []
def c105r5 : List AStm := [.op (some 27) none (.load (some 2) (.t 6)),
    .op (some 28) none (.load (some 2) (.t 2)),
    .op (some 29) none (.load (some 2) (.t 3)),
    .callG (some 30) none (.c (.fn (.func 104) [] [])) [(.t 28), (.t 29)],
    .op none none (.store 2 (.t 4) (.t 27)),
    .op (some 5) none (.mv (.t 30))]
def c105 : CF := ⟨.seq (.reg c105r0) (.seq (.reg c105r1) (.seq (.seq (.reg c105r2) (.cond (.t 22) (.reg c105r3) (.skip))) (.seq (.dreg c105r4 c105r5) (.ret)))), [.cell 4 (some 2), .tmp 5], 31⟩
theorem cf105 : cfun Try.prog 105 = some c105 := by kernel_rfl



theorem wrap64 (x : Nat) : IntKind.u64.wrap (x : Int) = ((x % 18446744073709551616 : Nat) : Int) := by
  simp [IntKind.wrap, IntKind.bits, IntKind.signed]
theorem pof_fc (h : Heap) (n : Nat) (hn : n < 18446744073709551616) : FC Try.prog 70 [.int .u64 (n : Int)] h fun d h' => d = .agg (wideD n) ∧ h' = h := by
  have e : wideD n = [.int .u64 0, .int .u64 (n : Int)] := by
    simp only [wideD, Nat.div_eq_of_lt hn, Nat.mod_eq_of_lt hn]; rfl
  rw [e]
  refine FC.goes cf70 ?_; simp only [c70]; simp only [List.length_cons, List.length_nil, Nat.reduceAdd, Nat.reduceSub, List.replicate_succ, List.replicate_zero, List.cons_append, List.nil_append]
  simp (disch := first | omega | (simp only [List.length_append, List.length_cons, List.length_nil]; omega)) only [c70r0, c70r1, fillD, splice0, go_sem, fill_c, ↓reduceIte, reduceCtorEq, Nat.reduceAdd, Nat.reduceSub, Nat.reducePow, Nat.reduceMul, Nat.reduceEqDiff, Nat.reduceLT, Nat.reduceLeDiff, Int.reduceToNat, Int.reduceLT, Int.reduceLE, Int.reduceEq, Int.reduceNeg, Int.reduceAdd, Int.reduceSub, Int.reduceMul]
  exact FinOk.drop (.inl rfl) (by simp [underL, underD]) ⟨rfl, rfl⟩
theorem pless_fc (h : Heap) (a b : Nat) (ha : a < 340282366920938463463374607431768211456) (hb : b < 340282366920938463463374607431768211456) :
    FC Try.prog 104 [.agg (wideD a), .agg (wideD b)] h fun d h' => d = .bool (decide (a < b)) ∧ h' = h := by
  refine FC.goes cf104 ?_; simp only [c104]; simp only [List.length_cons, List.length_nil, Nat.reduceAdd, Nat.reduceSub, List.replicate_succ, List.replicate_zero, List.cons_append, List.nil_append]
  simp (disch := first | omega | (simp only [List.length_append, List.length_cons, List.length_nil]; omega)) only [c104r0, c104r1, c104r2, c104r3, wideD, go_sem, fill_c, ↓reduceIte, reduceCtorEq, Nat.reduceAdd, Nat.reduceSub, Nat.reducePow, Nat.reduceMul, Nat.reduceEqDiff, Nat.reduceLT, Nat.reduceLeDiff, Int.reduceToNat, Int.reduceLT, Int.reduceLE, Int.reduceEq, Int.reduceNeg, Int.reduceAdd, Int.reduceSub, Int.reduceMul]
  by_cases hh : a / 18446744073709551616 = b / 18446744073709551616
  · have e1 : decide (((a / 18446744073709551616 : Nat) : Int) = ((b / 18446744073709551616 : Nat) : Int)) = true := decide_eq_true (by omega)
    have e2 : ((a % 18446744073709551616 : Nat) : Int) < ((b % 18446744073709551616 : Nat) : Int) ↔ a < b := by omega
    simp (disch := first | omega | (simp only [List.length_append, List.length_cons, List.length_nil]; omega)) only [e1, e2, go_sem, fill_c, ↓reduceIte, reduceCtorEq, Nat.reduceAdd, Nat.reduceSub, Nat.reducePow, Nat.reduceMul, Nat.reduceEqDiff, Nat.reduceLT, Nat.reduceLeDiff, Int.reduceToNat, Int.reduceLT, Int.reduceLE, Int.reduceEq, Int.reduceNeg, Int.reduceAdd, Int.reduceSub, Int.reduceMul]
    exact FinOk.drop (.inl rfl) (by simp [underL, underD]) ⟨rfl, rfl⟩
  · have e1 : ¬ ((a / 18446744073709551616 : Nat) : Int) = ((b / 18446744073709551616 : Nat) : Int) := by omega
    have e2 : ((a / 18446744073709551616 : Nat) : Int) < ((b / 18446744073709551616 : Nat) : Int) ↔ a < b := by omega
    simp (disch := first | omega | (simp only [List.length_append, List.length_cons, List.length_nil]; omega)) only [e1, e2, go_sem, fill_c, ↓reduceIte, reduceCtorEq, Nat.reduceAdd, Nat.reduceSub, Nat.reducePow, Nat.reduceMul, Nat.reduceEqDiff, Nat.reduceLT, Nat.reduceLeDiff, Int.reduceToNat, Int.reduceLT, Int.reduceLE, Int.reduceEq, Int.reduceNeg, Int.reduceAdd, Int.reduceSub, Int.reduceMul]
    exact FinOk.drop (.inl rfl) (by simp [underL, underD]) ⟨rfl, rfl⟩
theorem twice_hi (r one : Nat) (hr : r < 170141183460469231731687303715884105728) (h1 : one < 2) :
    (r / 18446744073709551616 * 2) % 18446744073709551616 ||| r % 18446744073709551616 / 9223372036854775808 = (2 * r + one) / 18446744073709551616 ∧
    (r % 18446744073709551616 * 2) % 18446744073709551616 ||| one = (2 * r + one) % 18446744073709551616 := by
  have key : ∀ x y : Nat, y < 2 → x * 2 ||| y = x * 2 + y := fun x y hy => by
    rw [Nat.mul_comm]
    exact (Nat.two_pow_add_eq_or_of_lt (i := 1) (by omega) x).symm
  constructor
  · rw [Nat.mod_eq_of_lt (by omega), key _ _ (by omega)]; omega
  · have e : (r % 18446744073709551616 * 2) % 18446744073709551616 = r % 9223372036854775808 * 2 := by omega
    rw [e, key _ _ h1]; omega
theorem twice_fc (h : Heap) (r one : Nat) (hr : r < 170141183460469231731687303715884105728) (h1 : one < 2) :
    FC Try.prog 103 [.agg (wideD r), .int .u64 (one : Int)] h fun d h' => d = .agg (wideD (2 * r + one)) ∧ h' = h := by
  obtain ⟨t1, t2⟩ := twice_hi r one hr h1
  have ea : wideD (2 * r + one) = [.int .u64 (((2 * r + one) / 18446744073709551616 : Nat) : Int), .int .u64 (((2 * r + one) % 18446744073709551616 : Nat) : Int)] := rfl
  rw [ea, ← t1, ← t2]
  have x1 : r / 18446744073709551616 < 18446744073709551616 := by omega
  have x2 : r % 18446744073709551616 < 18446744073709551616 := Nat.mod_lt _ (by omega)
  have s1 : arith .shl (.int .u64 ((r / 18446744073709551616 : Nat) : Int)) (.int .u64 1) = some (.int .u64 ((r / 18446744073709551616 * 2 % 18446744073709551616 : Nat) : Int)) := by
    rw [shl_u64 (by omega) (by omega), wrap64]; rfl
  have s2 : arith .shl (.int .u64 ((r % 18446744073709551616 : Nat) : Int)) (.int .u64 1) = some (.int .u64 ((r % 18446744073709551616 * 2 % 18446744073709551616 : Nat) : Int)) := by
    rw [shl_u64 (by omega) (by omega), wrap64]; rfl
  have s3 : arith .shr (.int .u64 ((r % 18446744073709551616 : Nat) : Int)) (.int .u64 63) = some (.int .u64 ((r % 18446744073709551616 / 9223372036854775808 : Nat) : Int)) := by
    rw [shr_u64 (by omega) (by omega)]; simp
  have o1 := or_u64 (x := r / 18446744073709551616 * 2 % 18446744073709551616) (y := r % 18446744073709551616 / 9223372036854775808) (by omega) (by omega)
  have o2 := or_u64 (x := r % 18446744073709551616 * 2 % 18446744073709551616) (y := one) (by omega) (by omega)
  generalize r / 18446744073709551616 * 2 % 18446744073709551616 = u1 at *
  generalize r % 18446744073709551616 * 2 % 18446744073709551616 = u2 at *
  generalize r % 18446744073709551616 / 9223372036854775808 = u3 at *
  refine FC.goes cf103 ?_; simp only [c103]; simp only [List.length_cons, List.length_nil, Nat.reduceAdd, Nat.reduceSub, List.replicate_succ, List.replicate_zero, List.cons_append, List.nil_append]
  simp (disch := first | omega | (simp only [List.length_append, List.length_cons, List.length_nil]; omega)) only [c103r0, c103r1, wideD, fillD, splice0, s1, s2, s3, o1, o2, go_sem, fill_c, ↓reduceIte, reduceCtorEq, Nat.reduceAdd, Nat.reduceSub, Nat.reducePow, Nat.reduceMul, Nat.reduceEqDiff, Nat.reduceLT, Nat.reduceLeDiff, Int.reduceToNat, Int.reduceLT, Int.reduceLE, Int.reduceEq, Int.reduceNeg, Int.reduceAdd, Int.reduceSub, Int.reduceMul]
  exact FinOk.drop (.inl rfl) (by simp [underL, underD]) ⟨rfl, rfl⟩
theorem psub_fc (h : Heap) (a b : Nat) (ha : a < 340282366920938463463374607431768211456) (hb : b ≤ a) :
    FC Try.prog 105 [.agg (wideD a), .agg (wideD b)] h fun d h' => d = .tup [.agg (wideD (a - b)), .bool false] ∧ h' = h := by
  have ec := pless_fc
  unfold wideD at ec
  have x1 : a / 18446744073709551616 < 18446744073709551616 := by omega
  have x2 : b / 18446744073709551616 ≤ a / 18446744073709551616 := Nat.div_le_div_right hb
  have s1 : IntKind.u64.wrap (((a / 18446744073709551616 : Nat) : Int) - ((b / 18446744073709551616 : Nat) : Int)) = ((a / 18446744073709551616 - b / 18446744073709551616 : Nat) : Int) := by
    rw [w_u64 (by omega) (by omega)]; omega
  have hlt : decide (a < b) = false := decide_eq_false (by omega)
  refine FC.goes cf105 ?_; simp only [c105]; simp only [List.length_cons, List.length_nil, Nat.reduceAdd, Nat.reduceSub, List.replicate_succ, List.replicate_zero, List.cons_append, List.nil_append]
  simp (disch := first | omega | (simp only [List.length_append, List.length_cons, List.length_nil]; omega)) only [c105r0, c105r1, c105r2, c105r3, c105r4, c105r5, wideD, fillD, splice0, s1, go_sem, fill_c, ↓reduceIte, reduceCtorEq, Nat.reduceAdd, Nat.reduceSub, Nat.reducePow, Nat.reduceMul, Nat.reduceEqDiff, Nat.reduceLT, Nat.reduceLeDiff, Int.reduceToNat, Int.reduceLT, Int.reduceLE, Int.reduceEq, Int.reduceNeg, Int.reduceAdd, Int.reduceSub, Int.reduceMul]
  by_cases hlo : a % 18446744073709551616 < b % 18446744073709551616
  · have e1 : ((a % 18446744073709551616 : Nat) : Int) < ((b % 18446744073709551616 : Nat) : Int) := by omega
    have s2 : IntKind.u64.wrap (((a % 18446744073709551616 : Nat) : Int) - ((b % 18446744073709551616 : Nat) : Int)) = (((a - b) % 18446744073709551616 : Nat) : Int) := by
      simp only [IntKind.wrap, IntKind.bits, IntKind.signed]; simp only [Bool.false_and]; rw [if_neg (by simp)]; omega
    have s3 : IntKind.u64.wrap (((a / 18446744073709551616 - b / 18446744073709551616 : Nat) : Int) - 1) = (((a - b) / 18446744073709551616 : Nat) : Int) := by
      rw [w_u64 (by omega) (by omega)]; omega
    simp (disch := first | omega | (simp only [List.length_append, List.length_cons, List.length_nil]; omega)) only [e1, s2, s3, go_sem, fill_c, ↓reduceIte, reduceCtorEq, Nat.reduceAdd, Nat.reduceSub, Nat.reducePow, Nat.reduceMul, Nat.reduceEqDiff, Nat.reduceLT, Nat.reduceLeDiff, Int.reduceToNat, Int.reduceLT, Int.reduceLE, Int.reduceEq, Int.reduceNeg, Int.reduceAdd, Int.reduceSub, Int.reduceMul]
    refine xfc_of (ec _ a b ha (by omega)) ?_
    rintro d h' ⟨rfl, e⟩
    refine ⟨⟨[], by rw [e, List.append_nil]⟩, ?_⟩
    rw [e, hlt]
    simp (disch := first | omega | (simp only [List.length_append, List.length_cons, List.length_nil]; omega)) only [fillD, splice0, go_sem, fill_c, ↓reduceIte, reduceCtorEq, Nat.reduceAdd, Nat.reduceSub, Nat.reducePow, Nat.reduceMul, Nat.reduceEqDiff, Nat.reduceLT, Nat.reduceLeDiff, Int.reduceToNat, Int.reduceLT, Int.reduceLE, Int.reduceEq, Int.reduceNeg, Int.reduceAdd, Int.reduceSub, Int.reduceMul]
    exact FinOk.drop (.inl rfl) (by simp [underL, underD]) ⟨rfl, rfl⟩
  · have e1 : ¬ ((a % 18446744073709551616 : Nat) : Int) < ((b % 18446744073709551616 : Nat) : Int) := by omega
    have s2 : IntKind.u64.wrap (((a % 18446744073709551616 : Nat) : Int) - ((b % 18446744073709551616 : Nat) : Int)) = (((a - b) % 18446744073709551616 : Nat) : Int) := by
      rw [w_u64 (by omega) (by omega)]; omega
    have s3 : a / 18446744073709551616 - b / 18446744073709551616 = (a - b) / 18446744073709551616 := by omega
    rw [s3]
    simp (disch := first | omega | (simp only [List.length_append, List.length_cons, List.length_nil]; omega)) only [e1, s2, go_sem, fill_c, ↓reduceIte, reduceCtorEq, Nat.reduceAdd, Nat.reduceSub, Nat.reducePow, Nat.reduceMul, Nat.reduceEqDiff, Nat.reduceLT, Nat.reduceLeDiff, Int.reduceToNat, Int.reduceLT, Int.reduceLE, Int.reduceEq, Int.reduceNeg, Int.reduceAdd, Int.reduceSub, Int.reduceMul]
    refine xfc_of (ec _ a b ha (by omega)) ?_
    rintro d h' ⟨rfl, e⟩
    refine ⟨⟨[], by rw [e, List.append_nil]⟩, ?_⟩
    rw [e, hlt]
    simp (disch := first | omega | (simp only [List.length_append, List.length_cons, List.length_nil]; omega)) only [fillD, splice0, go_sem, fill_c, ↓reduceIte, reduceCtorEq, Nat.reduceAdd, Nat.reduceSub, Nat.reducePow, Nat.reduceMul, Nat.reduceEqDiff, Nat.reduceLT, Nat.reduceLeDiff, Int.reduceToNat, Int.reduceLT, Int.reduceLE, Int.reduceEq, Int.reduceNeg, Int.reduceAdd, Int.reduceSub, Int.reduceMul]
    exact FinOk.drop (.inl rfl) (by simp [underL, underD]) ⟨rfl, rfl⟩
end Go.Proofs
