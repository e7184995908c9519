/-
  Own work. Spans: the walks of is, Check, All, Has, Meet, and of the document's Check, Has, Meet.
-/
import Derived.Test.YtodlpcoffmnmbaaB0
namespace Go.Proofs
open Go Go.Ytodlpcoffmnmbaa
set_option linter.unusedVariables false
set_option linter.unusedSimpArgs false
set_option maxRecDepth 10000

/-! ### weighbridge/span.is, params 1 -/
def c77r0 : List AStm := [.op (some 2) none (.mv (.c (.bool false)))]
def c77r1 : List AStm := [.op (some 3) none (.mv (.t 0)),
    .op (some 4) none (.bin .geq (.t 3) (.c (.int .i64 0))),
    .op (some 5) none (.mv (.t 4)),
    .op (some 6) (some (5, true)) (.mv (.t 0)),
    .op (some 7) (some (5, true)) (.bin .leq (.t 6) (.c (.int .i64 65535))),
    .op (some 8) none (.pick (.t 5) (.t 7) (.c (.bool false))),
    .op (some 2) none (.mv (.t 8))]
def c77 : CF := ⟨.seq (.reg c77r0) (.seq (.reg c77r1) (.ret)), [.tmp 2], 9⟩
theorem cf77 : cfun Try.prog 77 = some c77 := by kernel_rfl

/-! ### weighbridge/span.Check, params 1 -/
def c48r0 : List AStm := [.op (some 1) none (.box (.t 0)),
    .op (some 2) none (.mv (.c (.int .i64 0)))]
def c48r1 : List AStm := [.op (some 4) none (.faddr 0 (.t 1)),
    .op (some 5) none (.load none (.t 4)),
    .call (some 6) none (.c (.fn (.func 77) [] [])) [(.t 5)],
    .op (some 7) none (.un .not (.t 6)),
    .op (some 8) none (.mv (.t 7)),
    .op (some 9) (some (8, false)) (.faddr 1 (.t 1)),
    .op (some 10) (some (8, false)) (.load none (.t 9)),
    .call (some 11) (some (8, false)) (.c (.fn (.func 77) [] [])) [(.t 10)],
    .op (some 12) (some (8, false)) (.un .not (.t 11)),
    .op (some 13) none (.pick (.t 8) (.c (.bool true)) (.t 12)),
    .op (some 3) none (.mv (.t 13))]
def c48r2 : List AStm := [.op (some 2) none (.mv (.c (.int .i64 1)))]
def c48r3 : List AStm := [.op (some 15) none (.faddr 0 (.t 1)),
    .op (some 16) none (.load none (.t 15)),
    .op (some 17) none (.faddr 1 (.t 1)),
    .op (some 18) none (.load none (.t 17)),
    .op (some 19) none (.bin .gtr (.t 16) (.t 18)),
    .op (some 14) none (.mv (.t 19))]
def c48r4 : List AStm := [.op (some 2) none (.mv (.c (.int .i64 6)))]
def c48r5 : List AStm := [.op (some 2) none (.mv (.c (.int .i64 0)))]
def c48 : CF := ⟨.seq (.reg c48r0) (.seq (.block 0 (.seq (.reg c48r1) (.cond (.t 3) (.seq (.reg c48r2) (.ret)) (.seq (.reg c48r3) (.cond (.t 14) (.seq (.reg c48r4) (.ret)) (.skip)))))) (.seq (.reg c48r5) (.ret))), [.tmp 2], 20⟩
theorem cf48 : cfun Try.prog 48 = some c48 := by kernel_rfl

/-! ### weighbridge/span.All, params 0 -/
def c35r0 : List AStm := [.op (some 0) none (.alloc [(.int .i64 0), (.int .i64 0)])]
def c35r1 : List AStm := [.op (some 1) none (.build [(.int .i64 0), (.int .i64 0)] [(1, 1, (.c (.int .i64 65535)))]),
    .op none none (.store 2 (.t 0) (.t 1))]
def c35 : CF := ⟨.seq (.reg c35r0) (.seq (.reg c35r1) (.ret)), [.cell 0 (some 2)], 2⟩
theorem cf35 : cfun Try.prog 35 = some c35 := by kernel_rfl

/-! ### weighbridge/span.Has, params 2 -/
def c36r0 : List AStm := [.op (some 2) none (.box (.t 0)),
    .op (some 4) none (.mv (.c (.bool false)))]
def c36r1 : List AStm := [.op (some 5) none (.load (some 2) (.t 2)),
    .call (some 6) none (.c (.fn (.func 48) [] [])) [(.t 5)],
    .op (some 7) none (.bin .eql (.t 6) (.c (.int .i64 0))),
    .op (some 8) none (.mv (.t 7)),
    .op (some 9) (some (8, true)) (.mv (.t 1)),
    .op (some 10) (some (8, true)) (.faddr 0 (.t 2)),
    .op (some 11) (some (8, true)) (.load none (.t 10)),
    .op (some 12) (some (8, true)) (.bin .geq (.t 9) (.t 11)),
    .op (some 13) none (.pick (.t 8) (.t 12) (.c (.bool false))),
    .op (some 14) none (.mv (.t 13)),
    .op (some 15) (some (14, true)) (.mv (.t 1)),
    .op (some 16) (some (14, true)) (.faddr 1 (.t 2)),
    .op (some 17) (some (14, true)) (.load none (.t 16)),
    .op (some 18) (some (14, true)) (.bin .leq (.t 15) (.t 17)),
    .op (some 19) none (.pick (.t 14) (.t 18) (.c (.bool false))),
    .op (some 4) none (.mv (.t 19))]
def c36 : CF := ⟨.seq (.reg c36r0) (.seq (.reg c36r1) (.ret)), [.tmp 4], 20⟩
theorem cf36 : cfun Try.prog 36 = some c36 := by kernel_rfl

/-! ### weighbridge/span.Meet, params 2 -/
def c73r0 : List AStm := [.op (some 2) none (.box (.t 0)),
    .op (some 3) none (.box (.t 1)),
    .op (some 4) none (.alloc [(.int .i64 0), (.int .i64 0)]),
    .op (some 5) none (.mv (.c (.bool false)))]
def c73r1 : List AStm := [.op (some 7) none (.load (some 2) (.t 2)),
    .call (some 8) none (.c (.fn (.func 48) [] [])) [(.t 7)],
    .op (some 9) none (.bin .neq (.t 8) (.c (.int .i64 0))),
    .op (some 10) none (.mv (.t 9)),
    .op (some 11) (some (10, false)) (.load (some 2) (.t 3)),
    .call (some 12) (some (10, false)) (.c (.fn (.func 48) [] [])) [(.t 11)],
    .op (some 13) (some (10, false)) (.bin .neq (.t 12) (.c (.int .i64 0))),
    .op (some 14) none (.pick (.t 10) (.c (.bool true)) (.t 13))]
def c73r2 : List AStm := [.op (some 15) none (.build [(.int .i64 0), (.int .i64 0)] []),
    .op none none (.store 2 (.t 4) (.t 15)),
    .op (some 5) none (.mv (.c (.bool false)))]
def c73r3 : List AStm := [.op (some 16) none (.faddr 0 (.t 2)),
    .op (some 17) none (.load none (.t 16)),
    .op (some 18) none (.faddr 0 (.t 3)),
    .op (some 19) none (.load none (.t 18)),
    .op (some 20) none (.mnx true (.t 17) (.t 19)),
    .op (some 21) none (.faddr 1 (.t 2)),
    .op (some 22) none (.load none (.t 21)),
    .op (some 23) none (.faddr 1 (.t 3)),
    .op (some 24) none (.load none (.t 23)),
    .op (some 25) none (.mnx false (.t 22) (.t 24)),
    .op (some 26) none (.build [(.int .i64 0), (.int .i64 0)] [(0, 1, (.t 20)), (1, 1, (.t 25))]),
    .op (some 6) none (.alloc [(.int .i64 0), (.int .i64 0)]),
    .op none none (.store 2 (.t 6) (.t 26))]
def c73r4 : List AStm := [.op (some 27) none (.faddr 0 (.t 6)),
    .op (some 28) none (.load none (.t 27)),
    .op (some 29) none (.faddr 1 (.t 6)),
    .op (some 30) none (.load none (.t 29)),
    .op (some 31) none (.bin .gtr (.t 28) (.t 30))]
def c73r5 : List AStm := [.op (some 32) none (.build [(.int .i64 0), (.int .i64 0)] []),
    .op none none (.store 2 (.t 4) (.t 32)),
    .op (some 5) none (.mv (.c (.bool false)))]
def c73r6 : List AStm := [.op (some 33) none (.load (some 2) (.t 6)),
    .op none none (.store 2 (.t 4) (.t 33)),
    .op (some 5) none (.mv (.c (.bool true)))]
def c73 : CF := ⟨.seq (.reg c73r0) (.seq (.seq (.reg c73r1) (.cond (.t 14) (.seq (.reg c73r2) (.ret)) (.skip))) (.seq (.reg c73r3) (.seq (.seq (.reg c73r4) (.cond (.t 31) (.seq (.reg c73r5) (.ret)) (.skip))) (.seq (.reg c73r6) (.ret))))), [.cell 4 (some 2), .tmp 5], 34⟩
theorem cf73 : cfun Try.prog 73 = some c73 := by kernel_rfl

/-! ### weighbridge/weighbridgeref08.Check, params 1 -/
def c78r0 : List AStm := [.op (some 1) none (.box (.t 0)),
    .op (some 2) none (.mv (.c (.int .i64 0)))]
def c78r1 : List AStm := [.op (some 3) none (.faddr 0 (.t 1)),
    .op (some 4) none (.load none (.t 3)),
    .op (some 5) none (.bin .lss (.t 4) (.c (.int .i64 0))),
    .op (some 6) none (.mv (.t 5)),
    .op (some 7) (some (6, false)) (.faddr 0 (.t 1)),
    .op (some 8) (some (6, false)) (.load none (.t 7)),
    .op (some 9) (some (6, false)) (.bin .gtr (.t 8) (.c (.int .i64 65535))),
    .op (some 10) none (.pick (.t 6) (.c (.bool true)) (.t 9)),
    .op (some 11) none (.mv (.t 10)),
    .op (some 12) (some (11, false)) (.faddr 1 (.t 1)),
    .op (some 13) (some (11, false)) (.load none (.t 12)),
    .op (some 14) (some (11, false)) (.bin .lss (.t 13) (.c (.int .i64 0))),
    .op (some 15) none (.pick (.t 11) (.c (.bool true)) (.t 14)),
    .op (some 16) none (.mv (.t 15)),
    .op (some 17) (some (16, false)) (.faddr 1 (.t 1)),
    .op (some 18) (some (16, false)) (.load none (.t 17)),
    .op (some 19) (some (16, false)) (.bin .gtr (.t 18) (.c (.int .i64 65535))),
    .op (some 20) none (.pick (.t 16) (.c (.bool true)) (.t 19))]
def c78r2 : List AStm := [.op (some 2) none (.mv (.c (.int .i64 1)))]
def c78r3 : List AStm := [.op (some 21) none (.faddr 0 (.t 1)),
    .op (some 22) none (.load none (.t 21)),
    .op (some 23) none (.faddr 1 (.t 1)),
    .op (some 24) none (.load none (.t 23)),
    .op (some 25) none (.bin .gtr (.t 22) (.t 24))]
def c78r4 : List AStm := [.op (some 2) none (.mv (.c (.int .i64 6)))]
def c78r5 : List AStm := [.op (some 2) none (.mv (.c (.int .i64 0)))]
def c78 : CF := ⟨.seq (.reg c78r0) (.seq (.seq (.reg c78r1) (.cond (.t 20) (.seq (.reg c78r2) (.ret)) (.skip))) (.seq (.seq (.reg c78r3) (.cond (.t 25) (.seq (.reg c78r4) (.ret)) (.skip))) (.seq (.reg c78r5) (.ret)))), [.tmp 2], 26⟩
theorem cf78 : cfun Try.prog 78 = some c78 := by kernel_rfl

/-! ### weighbridge/weighbridgeref08.Has, params 2 -/
def c80r0 : List AStm := [.op (some 2) none (.box (.t 0)),
    .op (some 4) none (.mv (.c (.bool false)))]
def c80r1 : List AStm := [.op (some 5) none (.load (some 2) (.t 2)),
    .call (some 6) none (.c (.fn (.func 78) [] [])) [(.t 5)],
    .op (some 7) none (.bin .eql (.t 6) (.c (.int .i64 0))),
    .op (some 8) none (.mv (.t 7)),
    .op (some 9) (some (8, true)) (.faddr 0 (.t 2)),
    .op (some 10) (some (8, true)) (.load none (.t 9)),
    .op (some 11) (some (8, true)) (.mv (.t 1)),
    .op (some 12) (some (8, true)) (.bin .leq (.t 10) (.t 11)),
    .op (some 13) none (.pick (.t 8) (.t 12) (.c (.bool false))),
    .op (some 14) none (.mv (.t 13)),
    .op (some 15) (some (14, true)) (.mv (.t 1)),
    .op (some 16) (some (14, true)) (.faddr 1 (.t 2)),
    .op (some 17) (some (14, true)) (.load none (.t 16)),
    .op (some 18) (some (14, true)) (.bin .leq (.t 15) (.t 17)),
    .op (some 19) none (.pick (.t 14) (.t 18) (.c (.bool false))),
    .op (some 4) none (.mv (.t 19))]
def c80 : CF := ⟨.seq (.reg c80r0) (.seq (.reg c80r1) (.ret)), [.tmp 4], 20⟩
theorem cf80 : cfun Try.prog 80 = some c80 := by kernel_rfl



/-! ### Spans -/
def spanChk (lo hi : Int) : Int := if 0 ≤ lo ∧ lo ≤ 65535 ∧ 0 ≤ hi ∧ hi ≤ 65535 then if hi < lo then 6 else 0 else 1
def spanHas (lo hi n : Int) : Bool := decide (spanChk lo hi = 0) && (decide (lo ≤ n) && decide (n ≤ hi))
def sp2 (lo hi : Int) : List D := [.int .i64 lo, .int .i64 hi]
theorem sis_fc (h : Heap) (n : Int) : FC Try.prog 77 [.int .i64 n] h fun d h' => d = .bool (decide (0 ≤ n) && decide (n ≤ 65535)) ∧ h' = h := by
  refine FC.goes cf77 ?_; simp only [c77]; simp only [List.length_cons, List.length_nil, Nat.reduceAdd, Nat.reduceSub, List.replicate_succ, List.replicate_zero, List.cons_append, List.nil_append]
  by_cases h0 : 0 ≤ n
  · simp (disch := first | omega | (simp only [List.length_append, List.length_cons, List.length_nil]; omega)) only [c77r0, c77r1, h0, go_sem, fill_c, ↓reduceIte, reduceCtorEq, Nat.reduceAdd, Nat.reduceSub, Nat.reducePow, Nat.reduceMul, Nat.reduceEqDiff, Nat.reduceLT, Nat.reduceLeDiff, Int.reduceToNat, Int.reduceLT, Int.reduceLE, Int.reduceEq, Int.reduceNeg, Int.reduceAdd, Int.reduceSub, Int.reduceMul]
    exact FinOk.all ⟨rfl, rfl⟩
  · simp (disch := first | omega | (simp only [List.length_append, List.length_cons, List.length_nil]; omega)) only [c77r0, c77r1, h0, Bool.false_and, go_sem, fill_c, ↓reduceIte, reduceCtorEq, Nat.reduceAdd, Nat.reduceSub, Nat.reducePow, Nat.reduceMul, Nat.reduceEqDiff, Nat.reduceLT, Nat.reduceLeDiff, Int.reduceToNat, Int.reduceLT, Int.reduceLE, Int.reduceEq, Int.reduceNeg, Int.reduceAdd, Int.reduceSub, Int.reduceMul]
    exact FinOk.all ⟨rfl, rfl⟩
theorem scheck_fc (h : Heap) (lo hi : Int) : FC Try.prog 48 [.agg [.int .i64 lo, .int .i64 hi]] h fun d h' => d = .int .i64 (spanChk lo hi) ∧ h' = h := by
  refine FC.goes cf48 ?_; simp only [c48]; simp only [List.length_cons, List.length_nil, Nat.reduceAdd, Nat.reduceSub, List.replicate_succ, List.replicate_zero, List.cons_append, List.nil_append]
  simp (disch := first | omega | (simp only [List.length_append, List.length_cons, List.length_nil]; omega)) only [c48r0, c48r1, c48r2, c48r3, c48r4, c48r5, go_sem, fill_c, ↓reduceIte, reduceCtorEq, Nat.reduceAdd, Nat.reduceSub, Nat.reducePow, Nat.reduceMul, Nat.reduceEqDiff, Nat.reduceLT, Nat.reduceLeDiff, Int.reduceToNat, Int.reduceLT, Int.reduceLE, Int.reduceEq, Int.reduceNeg, Int.reduceAdd, Int.reduceSub, Int.reduceMul]
  refine gfc_same (sis_fc _ lo) ?_
  by_cases h1 : 0 ≤ lo ∧ lo ≤ 65535
  · simp (disch := first | omega | (simp only [List.length_append, List.length_cons, List.length_nil]; omega)) only [h1.1, h1.2, go_sem, fill_c, ↓reduceIte, reduceCtorEq, Nat.reduceAdd, Nat.reduceSub, Nat.reducePow, Nat.reduceMul, Nat.reduceEqDiff, Nat.reduceLT, Nat.reduceLeDiff, Int.reduceToNat, Int.reduceLT, Int.reduceLE, Int.reduceEq, Int.reduceNeg, Int.reduceAdd, Int.reduceSub, Int.reduceMul]
    refine gfc_same (sis_fc _ hi) ?_
    by_cases h2 : 0 ≤ hi ∧ hi ≤ 65535
    · by_cases h3 : hi < lo
      · have e : spanChk lo hi = 6 := by simp [spanChk, h1, h2, h3]
        rw [e]
        simp (disch := first | omega | (simp only [List.length_append, List.length_cons, List.length_nil]; omega)) only [h2.1, h2.2, h3, go_sem, fill_c, ↓reduceIte, reduceCtorEq, Nat.reduceAdd, Nat.reduceSub, Nat.reducePow, Nat.reduceMul, Nat.reduceEqDiff, Nat.reduceLT, Nat.reduceLeDiff, Int.reduceToNat, Int.reduceLT, Int.reduceLE, Int.reduceEq, Int.reduceNeg, Int.reduceAdd, Int.reduceSub, Int.reduceMul]
        exact FinOk.drop (.inl rfl) (by simp [underL, underD]) ⟨rfl, rfl⟩
      · have e : spanChk lo hi = 0 := by simp [spanChk, h1, h2, h3]
        rw [e]
        simp (disch := first | omega | (simp only [List.length_append, List.length_cons, List.length_nil]; omega)) only [h2.1, h2.2, h3, go_sem, fill_c, ↓reduceIte, reduceCtorEq, Nat.reduceAdd, Nat.reduceSub, Nat.reducePow, Nat.reduceMul, Nat.reduceEqDiff, Nat.reduceLT, Nat.reduceLeDiff, Int.reduceToNat, Int.reduceLT, Int.reduceLE, Int.reduceEq, Int.reduceNeg, Int.reduceAdd, Int.reduceSub, Int.reduceMul]
        exact FinOk.drop (.inl rfl) (by simp [underL, underD]) ⟨rfl, rfl⟩
    · have e : spanChk lo hi = 1 := by
        unfold spanChk
        rw [if_neg]; rintro ⟨_, _, h4, h5⟩; exact h2 ⟨h4, h5⟩
      have e2 : (decide (0 ≤ hi) && decide (hi ≤ 65535)) = false := by rw [← Bool.decide_and]; exact decide_eq_false h2
      rw [e, e2]
      simp (disch := first | omega | (simp only [List.length_append, List.length_cons, List.length_nil]; omega)) only [go_sem, fill_c, ↓reduceIte, reduceCtorEq, Nat.reduceAdd, Nat.reduceSub, Nat.reducePow, Nat.reduceMul, Nat.reduceEqDiff, Nat.reduceLT, Nat.reduceLeDiff, Int.reduceToNat, Int.reduceLT, Int.reduceLE, Int.reduceEq, Int.reduceNeg, Int.reduceAdd, Int.reduceSub, Int.reduceMul]
      exact FinOk.drop (.inl rfl) (by simp [underL, underD]) ⟨rfl, rfl⟩
  · have e : spanChk lo hi = 1 := by
      unfold spanChk
      rw [if_neg]; rintro ⟨h4, h5, _⟩; exact h1 ⟨h4, h5⟩
    have e2 : (decide (0 ≤ lo) && decide (lo ≤ 65535)) = false := by rw [← Bool.decide_and]; exact decide_eq_false h1
    rw [e, e2]
    simp (disch := first | omega | (simp only [List.length_append, List.length_cons, List.length_nil]; omega)) only [go_sem, fill_c, ↓reduceIte, reduceCtorEq, Nat.reduceAdd, Nat.reduceSub, Nat.reducePow, Nat.reduceMul, Nat.reduceEqDiff, Nat.reduceLT, Nat.reduceLeDiff, Int.reduceToNat, Int.reduceLT, Int.reduceLE, Int.reduceEq, Int.reduceNeg, Int.reduceAdd, Int.reduceSub, Int.reduceMul]
    exact FinOk.drop (.inl rfl) (by simp [underL, underD]) ⟨rfl, rfl⟩
theorem sall_fc (h : Heap) : FC Try.prog 35 [] h fun d h' => d = .agg [.int .i64 0, .int .i64 65535] ∧ h' = h := by
  refine FC.goes cf35 ?_; simp only [c35]; simp only [List.length_cons, List.length_nil, Nat.reduceAdd, Nat.reduceSub, List.replicate_succ, List.replicate_zero, List.cons_append, List.nil_append]
  simp (disch := first | omega | (simp only [List.length_append, List.length_cons, List.length_nil]; omega)) only [c35r0, c35r1, fillD, splice0, go_sem, fill_c, ↓reduceIte, reduceCtorEq, Nat.reduceAdd, Nat.reduceSub, Nat.reducePow, Nat.reduceMul, Nat.reduceEqDiff, Nat.reduceLT, Nat.reduceLeDiff, Int.reduceToNat, Int.reduceLT, Int.reduceLE, Int.reduceEq, Int.reduceNeg, Int.reduceAdd, Int.reduceSub, Int.reduceMul]
  exact FinOk.drop (.inl rfl) (by simp [underL, underD]) ⟨rfl, rfl⟩
theorem shas_fc (h : Heap) (lo hi n : Int) : FC Try.prog 36 [.agg [.int .i64 lo, .int .i64 hi], .int .i64 n] h fun d h' => d = .bool (spanHas lo hi n) ∧ h' = h := by
  refine FC.goes cf36 ?_; simp only [c36]; simp only [List.length_cons, List.length_nil, Nat.reduceAdd, Nat.reduceSub, List.replicate_succ, List.replicate_zero, List.cons_append, List.nil_append]
  simp (disch := first | omega | (simp only [List.length_append, List.length_cons, List.length_nil]; omega)) only [c36r0, c36r1, go_sem, fill_c, ↓reduceIte, reduceCtorEq, Nat.reduceAdd, Nat.reduceSub, Nat.reducePow, Nat.reduceMul, Nat.reduceEqDiff, Nat.reduceLT, Nat.reduceLeDiff, Int.reduceToNat, Int.reduceLT, Int.reduceLE, Int.reduceEq, Int.reduceNeg, Int.reduceAdd, Int.reduceSub, Int.reduceMul]
  refine gfc_same (scheck_fc _ lo hi) ?_
  by_cases hc : spanChk lo hi = 0
  · have e0 : decide (spanChk lo hi = 0) = true := decide_eq_true hc
    by_cases h1 : lo ≤ n
    · have e : spanHas lo hi n = decide (n ≤ hi) := by simp [spanHas, hc, h1]
      rw [e]
      simp (disch := first | omega | (simp only [List.length_append, List.length_cons, List.length_nil]; omega)) only [e0, h1, go_sem, fill_c, ↓reduceIte, reduceCtorEq, Nat.reduceAdd, Nat.reduceSub, Nat.reducePow, Nat.reduceMul, Nat.reduceEqDiff, Nat.reduceLT, Nat.reduceLeDiff, Int.reduceToNat, Int.reduceLT, Int.reduceLE, Int.reduceEq, Int.reduceNeg, Int.reduceAdd, Int.reduceSub, Int.reduceMul]
      exact FinOk.drop (.inl rfl) (by simp [underL, underD]) ⟨rfl, rfl⟩
    · have e : spanHas lo hi n = false := by simp [spanHas, h1]
      rw [e]
      simp (disch := first | omega | (simp only [List.length_append, List.length_cons, List.length_nil]; omega)) only [e0, h1, go_sem, fill_c, ↓reduceIte, reduceCtorEq, Nat.reduceAdd, Nat.reduceSub, Nat.reducePow, Nat.reduceMul, Nat.reduceEqDiff, Nat.reduceLT, Nat.reduceLeDiff, Int.reduceToNat, Int.reduceLT, Int.reduceLE, Int.reduceEq, Int.reduceNeg, Int.reduceAdd, Int.reduceSub, Int.reduceMul]
      exact FinOk.drop (.inl rfl) (by simp [underL, underD]) ⟨rfl, rfl⟩
  · have e : spanHas lo hi n = false := by simp [spanHas, hc]
    rw [e]
    simp (disch := first | omega | (simp only [List.length_append, List.length_cons, List.length_nil]; omega)) only [hc, go_sem, fill_c, ↓reduceIte, reduceCtorEq, Nat.reduceAdd, Nat.reduceSub, Nat.reducePow, Nat.reduceMul, Nat.reduceEqDiff, Nat.reduceLT, Nat.reduceLeDiff, Int.reduceToNat, Int.reduceLT, Int.reduceLE, Int.reduceEq, Int.reduceNeg, Int.reduceAdd, Int.reduceSub, Int.reduceMul]
    exact FinOk.drop (.inl rfl) (by simp [underL, underD]) ⟨rfl, rfl⟩


/-- What is in two spans. -/
def meetB (a b c d : Int) : Bool := decide (spanChk a b = 0) && (decide (spanChk c d = 0) && !decide (min b d < max a c))
def meetLo (a b c d : Int) : Int := if meetB a b c d then max a c else 0
def meetHi (a b c d : Int) : Int := if meetB a b c d then min b d else 0
theorem mx_int (a c : Int) : (if c > a then c else a) = max a c := by omega
theorem mn_int (b d : Int) : (if d < b then d else b) = min b d := by omega
theorem smeet_fc (h : Heap) (a b c d : Int) : FC Try.prog 73 [.agg [.int .i64 a, .int .i64 b], .agg [.int .i64 c, .int .i64 d]] h fun r h' => r = .tup [.agg [.int .i64 (meetLo a b c d), .int .i64 (meetHi a b c d)], .bool (meetB a b c d)] ∧ h' = h := by
  refine FC.goes cf73 ?_; simp only [c73]; simp only [List.length_cons, List.length_nil, Nat.reduceAdd, Nat.reduceSub, List.replicate_succ, List.replicate_zero, List.cons_append, List.nil_append]
  simp (disch := first | omega | (simp only [List.length_append, List.length_cons, List.length_nil]; omega)) only [c73r0, c73r1, c73r2, c73r3, c73r4, c73r5, c73r6, go_sem, fill_c, ↓reduceIte, reduceCtorEq, Nat.reduceAdd, Nat.reduceSub, Nat.reducePow, Nat.reduceMul, Nat.reduceEqDiff, Nat.reduceLT, Nat.reduceLeDiff, Int.reduceToNat, Int.reduceLT, Int.reduceLE, Int.reduceEq, Int.reduceNeg, Int.reduceAdd, Int.reduceSub, Int.reduceMul]
  refine gfc_same (scheck_fc _ a b) ?_
  by_cases h1 : spanChk a b = 0
  · have e1 : decide (spanChk a b = 0) = true := decide_eq_true h1
    simp (disch := first | omega | (simp only [List.length_append, List.length_cons, List.length_nil]; omega)) only [e1, go_sem, fill_c, ↓reduceIte, reduceCtorEq, Nat.reduceAdd, Nat.reduceSub, Nat.reducePow, Nat.reduceMul, Nat.reduceEqDiff, Nat.reduceLT, Nat.reduceLeDiff, Int.reduceToNat, Int.reduceLT, Int.reduceLE, Int.reduceEq, Int.reduceNeg, Int.reduceAdd, Int.reduceSub, Int.reduceMul]
    refine gfc_same (scheck_fc _ c d) ?_
    by_cases h2 : spanChk c d = 0
    · have e2 : decide (spanChk c d = 0) = true := decide_eq_true h2
      simp (disch := first | omega | (simp only [List.length_append, List.length_cons, List.length_nil]; omega)) only [e2, mx_int, mn_int, fillD, splice0, go_sem, fill_c, ↓reduceIte, reduceCtorEq, Nat.reduceAdd, Nat.reduceSub, Nat.reducePow, Nat.reduceMul, Nat.reduceEqDiff, Nat.reduceLT, Nat.reduceLeDiff, Int.reduceToNat, Int.reduceLT, Int.reduceLE, Int.reduceEq, Int.reduceNeg, Int.reduceAdd, Int.reduceSub, Int.reduceMul]
      by_cases h3 : min b d < max a c
      · have hb : meetB a b c d = false := by simp [meetB, h3]
        have hl : meetLo a b c d = 0 := by simp [meetLo, hb]
        have hh : meetHi a b c d = 0 := by simp [meetHi, hb]
        rw [hb, hl, hh]
        simp (disch := first | omega | (simp only [List.length_append, List.length_cons, List.length_nil]; omega)) only [h3, fillD, splice0, go_sem, fill_c, ↓reduceIte, reduceCtorEq, Nat.reduceAdd, Nat.reduceSub, Nat.reducePow, Nat.reduceMul, Nat.reduceEqDiff, Nat.reduceLT, Nat.reduceLeDiff, Int.reduceToNat, Int.reduceLT, Int.reduceLE, Int.reduceEq, Int.reduceNeg, Int.reduceAdd, Int.reduceSub, Int.reduceMul]
        exact FinOk.drop (.inl rfl) (by simp [underL, underD]) ⟨rfl, rfl⟩
      · have hb : meetB a b c d = true := by simp [meetB, h1, h2, h3]
        have hl : meetLo a b c d = max a c := by simp [meetLo, hb]
        have hh : meetHi a b c d = min b d := by simp [meetHi, hb]
        rw [hb, hl, hh]
        simp (disch := first | omega | (simp only [List.length_append, List.length_cons, List.length_nil]; omega)) only [h3, fillD, splice0, go_sem, fill_c, ↓reduceIte, reduceCtorEq, Nat.reduceAdd, Nat.reduceSub, Nat.reducePow, Nat.reduceMul, Nat.reduceEqDiff, Nat.reduceLT, Nat.reduceLeDiff, Int.reduceToNat, Int.reduceLT, Int.reduceLE, Int.reduceEq, Int.reduceNeg, Int.reduceAdd, Int.reduceSub, Int.reduceMul]
        exact FinOk.drop (.inl rfl) (by simp [underL, underD]) ⟨rfl, rfl⟩
    · have hb : meetB a b c d = false := by simp [meetB, h2]
      have hl : meetLo a b c d = 0 := by simp [meetLo, hb]
      have hh : meetHi a b c d = 0 := by simp [meetHi, hb]
      rw [hb, hl, hh]
      simp (disch := first | omega | (simp only [List.length_append, List.length_cons, List.length_nil]; omega)) only [h2, fillD, splice0, go_sem, fill_c, ↓reduceIte, reduceCtorEq, Nat.reduceAdd, Nat.reduceSub, Nat.reducePow, Nat.reduceMul, Nat.reduceEqDiff, Nat.reduceLT, Nat.reduceLeDiff, Int.reduceToNat, Int.reduceLT, Int.reduceLE, Int.reduceEq, Int.reduceNeg, Int.reduceAdd, Int.reduceSub, Int.reduceMul]
      exact FinOk.drop (.inl rfl) (by simp [underL, underD]) ⟨rfl, rfl⟩
  · have hb : meetB a b c d = false := by simp [meetB, h1]
    have hl : meetLo a b c d = 0 := by simp [meetLo, hb]
    have hh : meetHi a b c d = 0 := by simp [meetHi, hb]
    rw [hb, hl, hh]
    simp (disch := first | omega | (simp only [List.length_append, List.length_cons, List.length_nil]; omega)) only [h1, fillD, splice0, go_sem, fill_c, ↓reduceIte, reduceCtorEq, Nat.reduceAdd, Nat.reduceSub, Nat.reducePow, Nat.reduceMul, Nat.reduceEqDiff, Nat.reduceLT, Nat.reduceLeDiff, Int.reduceToNat, Int.reduceLT, Int.reduceLE, Int.reduceEq, Int.reduceNeg, Int.reduceAdd, Int.reduceSub, Int.reduceMul]
    exact FinOk.drop (.inl rfl) (by simp [underL, underD]) ⟨rfl, rfl⟩
theorem rscheck_fc (h : Heap) (lo hi : Int) : FC Try.prog 78 [.agg [.int .i64 lo, .int .i64 hi]] h fun d h' => d = .int .i64 (spanChk lo hi) ∧ h' = h := by
  refine FC.goes cf78 ?_; simp only [c78]; simp only [List.length_cons, List.length_nil, Nat.reduceAdd, Nat.reduceSub, List.replicate_succ, List.replicate_zero, List.cons_append, List.nil_append]
  by_cases h1 : lo < 0
  · have e : spanChk lo hi = 1 := by unfold spanChk; rw [if_neg (by omega)]
    rw [e]
    simp (disch := first | omega | (simp only [List.length_append, List.length_cons, List.length_nil]; omega)) only [c78r0, c78r1, c78r2, c78r3, c78r4, c78r5, h1, go_sem, fill_c, ↓reduceIte, reduceCtorEq, Nat.reduceAdd, Nat.reduceSub, Nat.reducePow, Nat.reduceMul, Nat.reduceEqDiff, Nat.reduceLT, Nat.reduceLeDiff, Int.reduceToNat, Int.reduceLT, Int.reduceLE, Int.reduceEq, Int.reduceNeg, Int.reduceAdd, Int.reduceSub, Int.reduceMul]
    exact FinOk.drop (.inl rfl) (by simp [underL, underD]) ⟨rfl, rfl⟩
  by_cases h2 : 65535 < lo
  · have e : spanChk lo hi = 1 := by unfold spanChk; rw [if_neg (by omega)]
    rw [e]
    simp (disch := first | omega | (simp only [List.length_append, List.length_cons, List.length_nil]; omega)) only [c78r0, c78r1, c78r2, c78r3, c78r4, c78r5, h1, h2, go_sem, fill_c, ↓reduceIte, reduceCtorEq, Nat.reduceAdd, Nat.reduceSub, Nat.reducePow, Nat.reduceMul, Nat.reduceEqDiff, Nat.reduceLT, Nat.reduceLeDiff, Int.reduceToNat, Int.reduceLT, Int.reduceLE, Int.reduceEq, Int.reduceNeg, Int.reduceAdd, Int.reduceSub, Int.reduceMul]
    exact FinOk.drop (.inl rfl) (by simp [underL, underD]) ⟨rfl, rfl⟩
  by_cases h3 : hi < 0
  · have e : spanChk lo hi = 1 := by unfold spanChk; rw [if_neg (by omega)]
    rw [e]
    simp (disch := first | omega | (simp only [List.length_append, List.length_cons, List.length_nil]; omega)) only [c78r0, c78r1, c78r2, c78r3, c78r4, c78r5, h1, h2, h3, go_sem, fill_c, ↓reduceIte, reduceCtorEq, Nat.reduceAdd, Nat.reduceSub, Nat.reducePow, Nat.reduceMul, Nat.reduceEqDiff, Nat.reduceLT, Nat.reduceLeDiff, Int.reduceToNat, Int.reduceLT, Int.reduceLE, Int.reduceEq, Int.reduceNeg, Int.reduceAdd, Int.reduceSub, Int.reduceMul]
    exact FinOk.drop (.inl rfl) (by simp [underL, underD]) ⟨rfl, rfl⟩
  by_cases h4 : 65535 < hi
  · have e : spanChk lo hi = 1 := by unfold spanChk; rw [if_neg (by omega)]
    rw [e]
    simp (disch := first | omega | (simp only [List.length_append, List.length_cons, List.length_nil]; omega)) only [c78r0, c78r1, c78r2, c78r3, c78r4, c78r5, h1, h2, h3, h4, go_sem, fill_c, ↓reduceIte, reduceCtorEq, Nat.reduceAdd, Nat.reduceSub, Nat.reducePow, Nat.reduceMul, Nat.reduceEqDiff, Nat.reduceLT, Nat.reduceLeDiff, Int.reduceToNat, Int.reduceLT, Int.reduceLE, Int.reduceEq, Int.reduceNeg, Int.reduceAdd, Int.reduceSub, Int.reduceMul]
    exact FinOk.drop (.inl rfl) (by simp [underL, underD]) ⟨rfl, rfl⟩
  by_cases h5 : hi < lo
  · have e : spanChk lo hi = 6 := by unfold spanChk; rw [if_pos (by omega), if_pos h5]
    rw [e]
    simp (disch := first | omega | (simp only [List.length_append, List.length_cons, List.length_nil]; omega)) only [c78r0, c78r1, c78r2, c78r3, c78r4, c78r5, h1, h2, h3, h4, h5, go_sem, fill_c, ↓reduceIte, reduceCtorEq, Nat.reduceAdd, Nat.reduceSub, Nat.reducePow, Nat.reduceMul, Nat.reduceEqDiff, Nat.reduceLT, Nat.reduceLeDiff, Int.reduceToNat, Int.reduceLT, Int.reduceLE, Int.reduceEq, Int.reduceNeg, Int.reduceAdd, Int.reduceSub, Int.reduceMul]
    exact FinOk.drop (.inl rfl) (by simp [underL, underD]) ⟨rfl, rfl⟩
  · have e : spanChk lo hi = 0 := by unfold spanChk; rw [if_pos (by omega), if_neg h5]
    rw [e]
    simp (disch := first | omega | (simp only [List.length_append, List.length_cons, List.length_nil]; omega)) only [c78r0, c78r1, c78r2, c78r3, c78r4, c78r5, h1, h2, h3, h4, h5, go_sem, fill_c, ↓reduceIte, reduceCtorEq, Nat.reduceAdd, Nat.reduceSub, Nat.reducePow, Nat.reduceMul, Nat.reduceEqDiff, Nat.reduceLT, Nat.reduceLeDiff, Int.reduceToNat, Int.reduceLT, Int.reduceLE, Int.reduceEq, Int.reduceNeg, Int.reduceAdd, Int.reduceSub, Int.reduceMul]
    exact FinOk.drop (.inl rfl) (by simp [underL, underD]) ⟨rfl, rfl⟩
theorem rshas_fc (h : Heap) (lo hi n : Int) : FC Try.prog 80 [.agg [.int .i64 lo, .int .i64 hi], .int .i64 n] h fun d h' => d = .bool (spanHas lo hi n) ∧ h' = h := by
  refine FC.goes cf80 ?_; simp only [c80]; simp only [List.length_cons, List.length_nil, Nat.reduceAdd, Nat.reduceSub, List.replicate_succ, List.replicate_zero, List.cons_append, List.nil_append]
  simp (disch := first | omega | (simp only [List.length_append, List.length_cons, List.length_nil]; omega)) only [c80r0, c80r1, go_sem, fill_c, ↓reduceIte, reduceCtorEq, Nat.reduceAdd, Nat.reduceSub, Nat.reducePow, Nat.reduceMul, Nat.reduceEqDiff, Nat.reduceLT, Nat.reduceLeDiff, Int.reduceToNat, Int.reduceLT, Int.reduceLE, Int.reduceEq, Int.reduceNeg, Int.reduceAdd, Int.reduceSub, Int.reduceMul]
  refine gfc_same (rscheck_fc _ lo hi) ?_
  by_cases hc : spanChk lo hi = 0
  · have e0 : decide (spanChk lo hi = 0) = true := decide_eq_true hc
    by_cases h1 : lo ≤ n
    · have e : spanHas lo hi n = decide (n ≤ hi) := by simp [spanHas, hc, h1]
      rw [e]
      simp (disch := first | omega | (simp only [List.length_append, List.length_cons, List.length_nil]; omega)) only [e0, h1, go_sem, fill_c, ↓reduceIte, reduceCtorEq, Nat.reduceAdd, Nat.reduceSub, Nat.reducePow, Nat.reduceMul, Nat.reduceEqDiff, Nat.reduceLT, Nat.reduceLeDiff, Int.reduceToNat, Int.reduceLT, Int.reduceLE, Int.reduceEq, Int.reduceNeg, Int.reduceAdd, Int.reduceSub, Int.reduceMul]
      exact FinOk.drop (.inl rfl) (by simp [underL, underD]) ⟨rfl, rfl⟩
    · have e : spanHas lo hi n = false := by simp [spanHas, h1]
      rw [e]
      simp (disch := first | omega | (simp only [List.length_append, List.length_cons, List.length_nil]; omega)) only [e0, h1, go_sem, fill_c, ↓reduceIte, reduceCtorEq, Nat.reduceAdd, Nat.reduceSub, Nat.reducePow, Nat.reduceMul, Nat.reduceEqDiff, Nat.reduceLT, Nat.reduceLeDiff, Int.reduceToNat, Int.reduceLT, Int.reduceLE, Int.reduceEq, Int.reduceNeg, Int.reduceAdd, Int.reduceSub, Int.reduceMul]
      exact FinOk.drop (.inl rfl) (by simp [underL, underD]) ⟨rfl, rfl⟩
  · have e : spanHas lo hi n = false := by simp [spanHas, hc]
    rw [e]
    simp (disch := first | omega | (simp only [List.length_append, List.length_cons, List.length_nil]; omega)) only [hc, go_sem, fill_c, ↓reduceIte, reduceCtorEq, Nat.reduceAdd, Nat.reduceSub, Nat.reducePow, Nat.reduceMul, Nat.reduceEqDiff, Nat.reduceLT, Nat.reduceLeDiff, Int.reduceToNat, Int.reduceLT, Int.reduceLE, Int.reduceEq, Int.reduceNeg, Int.reduceAdd, Int.reduceSub, Int.reduceMul]
    exact FinOk.drop (.inl rfl) (by simp [underL, underD]) ⟨rfl, rfl⟩
end Go.Proofs
