/-
  Own work. Spans: the walks of is, Check, All, Has, Meet, and of the document's Check, Has, Meet.
-/
import Derived.Test.YtodlpcoffmnmbaaDoorB0
namespace Go.Proofs
open Go Go.YtodlpcoffmnmbaaDoor
set_option linter.unusedVariables false
set_option linter.unusedSimpArgs false
set_option maxRecDepth 10000

/-! ### weighbridge/span.is, params 1 -/
def c56r0 : List AStm := [.op (some 2) none (.mv (.c (.bool false)))]
def c56r1 : List AStm := [.op (some 3) none (.mv (.t 0)),
    .op (some 4) none (.bin .geq (.t 3) (.c (.int .i64 0))),
    .op (some 5) none (.mv (.t 4)),
    .op (some 6) (some (5, true)) (.mv (.t 0)),
    .op (some 7) (some (5, true)) (.bin .leq (.t 6) (.c (.int .i64 65535))),
    .op (some 8) none (.pick (.t 5) (.t 7) (.c (.bool false))),
    .op (some 2) none (.mv (.t 8))]
def c56 : CF := ⟨.seq (.reg c56r0) (.seq (.reg c56r1) (.ret)), [.tmp 2], 9⟩
theorem cf56 : cfun Tryd.prog 56 = some c56 := by kernel_rfl

/-! ### weighbridge/span.Check, params 1 -/
def c49r0 : List AStm := [.op (some 1) none (.box (.t 0)),
    .op (some 2) none (.mv (.c (.int .i64 0)))]
def c49r1 : List AStm := [.op (some 4) none (.faddr 0 (.t 1)),
    .op (some 5) none (.load none (.t 4)),
    .call (some 6) none (.c (.fn (.func 56) [] [])) [(.t 5)],
    .op (some 7) none (.un .not (.t 6)),
    .op (some 8) none (.mv (.t 7)),
    .op (some 9) (some (8, false)) (.faddr 1 (.t 1)),
    .op (some 10) (some (8, false)) (.load none (.t 9)),
    .call (some 11) (some (8, false)) (.c (.fn (.func 56) [] [])) [(.t 10)],
    .op (some 12) (some (8, false)) (.un .not (.t 11)),
    .op (some 13) none (.pick (.t 8) (.c (.bool true)) (.t 12)),
    .op (some 3) none (.mv (.t 13))]
def c49r2 : List AStm := [.op (some 2) none (.mv (.c (.int .i64 1)))]
def c49r3 : List AStm := [.op (some 15) none (.faddr 0 (.t 1)),
    .op (some 16) none (.load none (.t 15)),
    .op (some 17) none (.faddr 1 (.t 1)),
    .op (some 18) none (.load none (.t 17)),
    .op (some 19) none (.bin .gtr (.t 16) (.t 18)),
    .op (some 14) none (.mv (.t 19))]
def c49r4 : List AStm := [.op (some 2) none (.mv (.c (.int .i64 6)))]
def c49r5 : List AStm := [.op (some 2) none (.mv (.c (.int .i64 0)))]
def c49 : CF := ⟨.seq (.reg c49r0) (.seq (.block 0 (.seq (.reg c49r1) (.cond (.t 3) (.seq (.reg c49r2) (.ret)) (.seq (.reg c49r3) (.cond (.t 14) (.seq (.reg c49r4) (.ret)) (.skip)))))) (.seq (.reg c49r5) (.ret))), [.tmp 2], 20⟩
theorem cf49 : cfun Tryd.prog 49 = some c49 := by kernel_rfl

/-! ### weighbridge/span.All, params 0 -/
def c29r0 : List AStm := [.op (some 0) none (.alloc [(.int .i64 0), (.int .i64 0)])]
def c29r1 : List AStm := [.op (some 1) none (.build [(.int .i64 0), (.int .i64 0)] [(1, 1, (.c (.int .i64 65535)))]),
    .op none none (.store 2 (.t 0) (.t 1))]
def c29 : CF := ⟨.seq (.reg c29r0) (.seq (.reg c29r1) (.ret)), [.cell 0 (some 2)], 2⟩
theorem cf29 : cfun Tryd.prog 29 = some c29 := by kernel_rfl

/-! ### weighbridge/span.Meet, params 2 -/
def c37r0 : List AStm := [.op (some 2) none (.box (.t 0)),
    .op (some 3) none (.box (.t 1)),
    .op (some 4) none (.alloc [(.int .i64 0), (.int .i64 0)]),
    .op (some 5) none (.mv (.c (.bool false)))]
def c37r1 : List AStm := [.op (some 7) none (.load (some 2) (.t 2)),
    .call (some 8) none (.c (.fn (.func 49) [] [])) [(.t 7)],
    .op (some 9) none (.bin .neq (.t 8) (.c (.int .i64 0))),
    .op (some 10) none (.mv (.t 9)),
    .op (some 11) (some (10, false)) (.load (some 2) (.t 3)),
    .call (some 12) (some (10, false)) (.c (.fn (.func 49) [] [])) [(.t 11)],
    .op (some 13) (some (10, false)) (.bin .neq (.t 12) (.c (.int .i64 0))),
    .op (some 14) none (.pick (.t 10) (.c (.bool true)) (.t 13))]
def c37r2 : List AStm := [.op (some 15) none (.build [(.int .i64 0), (.int .i64 0)] []),
    .op none none (.store 2 (.t 4) (.t 15)),
    .op (some 5) none (.mv (.c (.bool false)))]
def c37r3 : List AStm := [.op (some 16) none (.faddr 0 (.t 2)),
    .op (some 17) none (.load none (.t 16)),
    .op (some 18) none (.faddr 0 (.t 3)),
    .op (some 19) none (.load none (.t 18)),
    .op (some 20) none (.mnx true (.t 17) (.t 19)),
    .op (some 21) none (.faddr 1 (.t 2)),
    .op (some 22) none (.load none (.t 21)),
    .op (some 23) none (.faddr 1 (.t 3)),
    .op (some 24) none (.load none (.t 23)),
    .op (some 25) none (.mnx false (.t 22) (.t 24)),
    .op (some 26) none (.build [(.int .i64 0), (.int .i64 0)] [(0, 1, (.t 20)), (1, 1, (.t 25))]),
    .op (some 6) none (.alloc [(.int .i64 0), (.int .i64 0)]),
    .op none none (.store 2 (.t 6) (.t 26))]
def c37r4 : List AStm := [.op (some 27) none (.faddr 0 (.t 6)),
    .op (some 28) none (.load none (.t 27)),
    .op (some 29) none (.faddr 1 (.t 6)),
    .op (some 30) none (.load none (.t 29)),
    .op (some 31) none (.bin .gtr (.t 28) (.t 30))]
def c37r5 : List AStm := [.op (some 32) none (.build [(.int .i64 0), (.int .i64 0)] []),
    .op none none (.store 2 (.t 4) (.t 32)),
    .op (some 5) none (.mv (.c (.bool false)))]
def c37r6 : List AStm := [.op (some 33) none (.load (some 2) (.t 6)),
    .op none none (.store 2 (.t 4) (.t 33)),
    .op (some 5) none (.mv (.c (.bool true)))]
def c37 : CF := ⟨.seq (.reg c37r0) (.seq (.seq (.reg c37r1) (.cond (.t 14) (.seq (.reg c37r2) (.ret)) (.skip))) (.seq (.reg c37r3) (.seq (.seq (.reg c37r4) (.cond (.t 31) (.seq (.reg c37r5) (.ret)) (.skip))) (.seq (.reg c37r6) (.ret))))), [.cell 4 (some 2), .tmp 5], 34⟩
theorem cf37 : cfun Tryd.prog 37 = some c37 := by kernel_rfl

/-! ### weighbridge/weighbridgeref08.Check, params 1 -/
def c38r0 : List AStm := [.op (some 1) none (.box (.t 0)),
    .op (some 2) none (.mv (.c (.int .i64 0)))]
def c38r1 : List AStm := [.op (some 3) none (.faddr 0 (.t 1)),
    .op (some 4) none (.load none (.t 3)),
    .op (some 5) none (.bin .lss (.t 4) (.c (.int .i64 0))),
    .op (some 6) none (.mv (.t 5)),
    .op (some 7) (some (6, false)) (.faddr 0 (.t 1)),
    .op (some 8) (some (6, false)) (.load none (.t 7)),
    .op (some 9) (some (6, false)) (.bin .gtr (.t 8) (.c (.int .i64 65535))),
    .op (some 10) none (.pick (.t 6) (.c (.bool true)) (.t 9)),
    .op (some 11) none (.mv (.t 10)),
    .op (some 12) (some (11, false)) (.faddr 1 (.t 1)),
    .op (some 13) (some (11, false)) (.load none (.t 12)),
    .op (some 14) (some (11, false)) (.bin .lss (.t 13) (.c (.int .i64 0))),
    .op (some 15) none (.pick (.t 11) (.c (.bool true)) (.t 14)),
    .op (some 16) none (.mv (.t 15)),
    .op (some 17) (some (16, false)) (.faddr 1 (.t 1)),
    .op (some 18) (some (16, false)) (.load none (.t 17)),
    .op (some 19) (some (16, false)) (.bin .gtr (.t 18) (.c (.int .i64 65535))),
    .op (some 20) none (.pick (.t 16) (.c (.bool true)) (.t 19))]
def c38r2 : List AStm := [.op (some 2) none (.mv (.c (.int .i64 1)))]
def c38r3 : List AStm := [.op (some 21) none (.faddr 0 (.t 1)),
    .op (some 22) none (.load none (.t 21)),
    .op (some 23) none (.faddr 1 (.t 1)),
    .op (some 24) none (.load none (.t 23)),
    .op (some 25) none (.bin .gtr (.t 22) (.t 24))]
def c38r4 : List AStm := [.op (some 2) none (.mv (.c (.int .i64 6)))]
def c38r5 : List AStm := [.op (some 2) none (.mv (.c (.int .i64 0)))]
def c38 : CF := ⟨.seq (.reg c38r0) (.seq (.seq (.reg c38r1) (.cond (.t 20) (.seq (.reg c38r2) (.ret)) (.skip))) (.seq (.seq (.reg c38r3) (.cond (.t 25) (.seq (.reg c38r4) (.ret)) (.skip))) (.seq (.reg c38r5) (.ret)))), [.tmp 2], 26⟩
theorem cf38 : cfun Tryd.prog 38 = some c38 := by kernel_rfl

/-! ### weighbridge/weighbridgeref08.Meet, params 2 -/
def c18r0 : List AStm := [.op (some 2) none (.box (.t 0)),
    .op (some 3) none (.box (.t 1)),
    .op (some 4) none (.alloc [(.int .i64 0), (.int .i64 0)]),
    .op (some 5) none (.mv (.c (.bool false)))]
def c18r1 : List AStm := [.op (some 7) none (.faddr 0 (.t 2)),
    .op (some 8) none (.load none (.t 7)),
    .op (some 9) none (.faddr 0 (.t 3)),
    .op (some 10) none (.load none (.t 9)),
    .op (some 11) none (.mnx true (.t 8) (.t 10)),
    .op (some 12) none (.faddr 1 (.t 2)),
    .op (some 13) none (.load none (.t 12)),
    .op (some 14) none (.faddr 1 (.t 3)),
    .op (some 15) none (.load none (.t 14)),
    .op (some 16) none (.mnx false (.t 13) (.t 15)),
    .op (some 17) none (.build [(.int .i64 0), (.int .i64 0)] [(0, 1, (.t 11)), (1, 1, (.t 16))]),
    .op (some 6) none (.alloc [(.int .i64 0), (.int .i64 0)]),
    .op none none (.store 2 (.t 6) (.t 17))]
def c18r2 : List AStm := [.op (some 18) none (.load (some 2) (.t 2)),
    .call (some 19) none (.c (.fn (.func 38) [] [])) [(.t 18)],
    .op (some 20) none (.bin .neq (.t 19) (.c (.int .i64 0))),
    .op (some 21) none (.mv (.t 20)),
    .op (some 22) (some (21, false)) (.load (some 2) (.t 3)),
    .call (some 23) (some (21, false)) (.c (.fn (.func 38) [] [])) [(.t 22)],
    .op (some 24) (some (21, false)) (.bin .neq (.t 23) (.c (.int .i64 0))),
    .op (some 25) none (.pick (.t 21) (.c (.bool true)) (.t 24)),
    .op (some 26) none (.mv (.t 25)),
    .op (some 27) (some (26, false)) (.faddr 0 (.t 6)),
    .op (some 28) (some (26, false)) (.load none (.t 27)),
    .op (some 29) (some (26, false)) (.faddr 1 (.t 6)),
    .op (some 30) (some (26, false)) (.load none (.t 29)),
    .op (some 31) (some (26, false)) (.bin .gtr (.t 28) (.t 30)),
    .op (some 32) none (.pick (.t 26) (.c (.bool true)) (.t 31))]
def c18r3 : List AStm := [.op (some 33) none (.build [(.int .i64 0), (.int .i64 0)] []),
    .op none none (.store 2 (.t 4) (.t 33)),
    .op (some 5) none (.mv (.c (.bool false)))]
def c18r4 : List AStm := [.op (some 34) none (.load (some 2) (.t 6)),
    .op none none (.store 2 (.t 4) (.t 34)),
    .op (some 5) none (.mv (.c (.bool true)))]
def c18 : CF := ⟨.seq (.reg c18r0) (.seq (.reg c18r1) (.seq (.seq (.reg c18r2) (.cond (.t 32) (.seq (.reg c18r3) (.ret)) (.skip))) (.seq (.reg c18r4) (.ret)))), [.cell 4 (some 2), .tmp 5], 35⟩
theorem cf18 : cfun Tryd.prog 18 = some c18 := by kernel_rfl



/-! ### Spans -/
def spanChk (lo hi : Int) : Int := if 0 ≤ lo ∧ lo ≤ 65535 ∧ 0 ≤ hi ∧ hi ≤ 65535 then if hi < lo then 6 else 0 else 1
def spanHas (lo hi n : Int) : Bool := decide (spanChk lo hi = 0) && (decide (lo ≤ n) && decide (n ≤ hi))
def sp2 (lo hi : Int) : List D := [.int .i64 lo, .int .i64 hi]
theorem sis_fc (h : Heap) (n : Int) : FC Tryd.prog 56 [.int .i64 n] h fun d h' => d = .bool (decide (0 ≤ n) && decide (n ≤ 65535)) ∧ h' = h := by
  refine FC.goes cf56 ?_; simp only [c56]; simp only [List.length_cons, List.length_nil, Nat.reduceAdd, Nat.reduceSub, List.replicate_succ, List.replicate_zero, List.cons_append, List.nil_append]
  by_cases h0 : 0 ≤ n
  · simp (disch := first | omega | (simp only [List.length_append, List.length_cons, List.length_nil]; omega)) only [c56r0, c56r1, h0, go_sem, fill_c, ↓reduceIte, reduceCtorEq, Nat.reduceAdd, Nat.reduceSub, Nat.reducePow, Nat.reduceMul, Nat.reduceEqDiff, Nat.reduceLT, Nat.reduceLeDiff, Int.reduceToNat, Int.reduceLT, Int.reduceLE, Int.reduceEq, Int.reduceNeg, Int.reduceAdd, Int.reduceSub, Int.reduceMul]
    exact FinOk.all ⟨rfl, rfl⟩
  · simp (disch := first | omega | (simp only [List.length_append, List.length_cons, List.length_nil]; omega)) only [c56r0, c56r1, h0, Bool.false_and, go_sem, fill_c, ↓reduceIte, reduceCtorEq, Nat.reduceAdd, Nat.reduceSub, Nat.reducePow, Nat.reduceMul, Nat.reduceEqDiff, Nat.reduceLT, Nat.reduceLeDiff, Int.reduceToNat, Int.reduceLT, Int.reduceLE, Int.reduceEq, Int.reduceNeg, Int.reduceAdd, Int.reduceSub, Int.reduceMul]
    exact FinOk.all ⟨rfl, rfl⟩
theorem scheck_fc (h : Heap) (lo hi : Int) : FC Tryd.prog 49 [.agg [.int .i64 lo, .int .i64 hi]] h fun d h' => d = .int .i64 (spanChk lo hi) ∧ h' = h := by
  refine FC.goes cf49 ?_; simp only [c49]; simp only [List.length_cons, List.length_nil, Nat.reduceAdd, Nat.reduceSub, List.replicate_succ, List.replicate_zero, List.cons_append, List.nil_append]
  simp (disch := first | omega | (simp only [List.length_append, List.length_cons, List.length_nil]; omega)) only [c49r0, c49r1, c49r2, c49r3, c49r4, c49r5, go_sem, fill_c, ↓reduceIte, reduceCtorEq, Nat.reduceAdd, Nat.reduceSub, Nat.reducePow, Nat.reduceMul, Nat.reduceEqDiff, Nat.reduceLT, Nat.reduceLeDiff, Int.reduceToNat, Int.reduceLT, Int.reduceLE, Int.reduceEq, Int.reduceNeg, Int.reduceAdd, Int.reduceSub, Int.reduceMul]
  refine gfc_same (sis_fc _ lo) ?_
  by_cases h1 : 0 ≤ lo ∧ lo ≤ 65535
  · simp (disch := first | omega | (simp only [List.length_append, List.length_cons, List.length_nil]; omega)) only [h1.1, h1.2, go_sem, fill_c, ↓reduceIte, reduceCtorEq, Nat.reduceAdd, Nat.reduceSub, Nat.reducePow, Nat.reduceMul, Nat.reduceEqDiff, Nat.reduceLT, Nat.reduceLeDiff, Int.reduceToNat, Int.reduceLT, Int.reduceLE, Int.reduceEq, Int.reduceNeg, Int.reduceAdd, Int.reduceSub, Int.reduceMul]
    refine gfc_same (sis_fc _ hi) ?_
    by_cases h2 : 0 ≤ hi ∧ hi ≤ 65535
    · by_cases h3 : hi < lo
      · have e : spanChk lo hi = 6 := by simp [spanChk, h1, h2, h3]
        rw [e]
        simp (disch := first | omega | (simp only [List.length_append, List.length_cons, List.length_nil]; omega)) only [h2.1, h2.2, h3, go_sem, fill_c, ↓reduceIte, reduceCtorEq, Nat.reduceAdd, Nat.reduceSub, Nat.reducePow, Nat.reduceMul, Nat.reduceEqDiff, Nat.reduceLT, Nat.reduceLeDiff, Int.reduceToNat, Int.reduceLT, Int.reduceLE, Int.reduceEq, Int.reduceNeg, Int.reduceAdd, Int.reduceSub, Int.reduceMul]
        exact FinOk.drop (.inl rfl) (by simp [underL, underD]) ⟨rfl, rfl⟩
      · have e : spanChk lo hi = 0 := by simp [spanChk, h1, h2, h3]
        rw [e]
        simp (disch := first | omega | (simp only [List.length_append, List.length_cons, List.length_nil]; omega)) only [h2.1, h2.2, h3, go_sem, fill_c, ↓reduceIte, reduceCtorEq, Nat.reduceAdd, Nat.reduceSub, Nat.reducePow, Nat.reduceMul, Nat.reduceEqDiff, Nat.reduceLT, Nat.reduceLeDiff, Int.reduceToNat, Int.reduceLT, Int.reduceLE, Int.reduceEq, Int.reduceNeg, Int.reduceAdd, Int.reduceSub, Int.reduceMul]
        exact FinOk.drop (.inl rfl) (by simp [underL, underD]) ⟨rfl, rfl⟩
    · have e : spanChk lo hi = 1 := by
        unfold spanChk
        rw [if_neg]; rintro ⟨_, _, h4, h5⟩; exact h2 ⟨h4, h5⟩
      have e2 : (decide (0 ≤ hi) && decide (hi ≤ 65535)) = false := by rw [← Bool.decide_and]; exact decide_eq_false h2
      rw [e, e2]
      simp (disch := first | omega | (simp only [List.length_append, List.length_cons, List.length_nil]; omega)) only [go_sem, fill_c, ↓reduceIte, reduceCtorEq, Nat.reduceAdd, Nat.reduceSub, Nat.reducePow, Nat.reduceMul, Nat.reduceEqDiff, Nat.reduceLT, Nat.reduceLeDiff, Int.reduceToNat, Int.reduceLT, Int.reduceLE, Int.reduceEq, Int.reduceNeg, Int.reduceAdd, Int.reduceSub, Int.reduceMul]
      exact FinOk.drop (.inl rfl) (by simp [underL, underD]) ⟨rfl, rfl⟩
  · have e : spanChk lo hi = 1 := by
      unfold spanChk
      rw [if_neg]; rintro ⟨h4, h5, _⟩; exact h1 ⟨h4, h5⟩
    have e2 : (decide (0 ≤ lo) && decide (lo ≤ 65535)) = false := by rw [← Bool.decide_and]; exact decide_eq_false h1
    rw [e, e2]
    simp (disch := first | omega | (simp only [List.length_append, List.length_cons, List.length_nil]; omega)) only [go_sem, fill_c, ↓reduceIte, reduceCtorEq, Nat.reduceAdd, Nat.reduceSub, Nat.reducePow, Nat.reduceMul, Nat.reduceEqDiff, Nat.reduceLT, Nat.reduceLeDiff, Int.reduceToNat, Int.reduceLT, Int.reduceLE, Int.reduceEq, Int.reduceNeg, Int.reduceAdd, Int.reduceSub, Int.reduceMul]
    exact FinOk.drop (.inl rfl) (by simp [underL, underD]) ⟨rfl, rfl⟩
theorem sall_fc (h : Heap) : FC Tryd.prog 29 [] h fun d h' => d = .agg [.int .i64 0, .int .i64 65535] ∧ h' = h := by
  refine FC.goes cf29 ?_; simp only [c29]; simp only [List.length_cons, List.length_nil, Nat.reduceAdd, Nat.reduceSub, List.replicate_succ, List.replicate_zero, List.cons_append, List.nil_append]
  simp (disch := first | omega | (simp only [List.length_append, List.length_cons, List.length_nil]; omega)) only [c29r0, c29r1, fillD, splice0, go_sem, fill_c, ↓reduceIte, reduceCtorEq, Nat.reduceAdd, Nat.reduceSub, Nat.reducePow, Nat.reduceMul, Nat.reduceEqDiff, Nat.reduceLT, Nat.reduceLeDiff, Int.reduceToNat, Int.reduceLT, Int.reduceLE, Int.reduceEq, Int.reduceNeg, Int.reduceAdd, Int.reduceSub, Int.reduceMul]
  exact FinOk.drop (.inl rfl) (by simp [underL, underD]) ⟨rfl, rfl⟩
/-- What is in two spans. -/
def meetB (a b c d : Int) : Bool := decide (spanChk a b = 0) && (decide (spanChk c d = 0) && !decide (min b d < max a c))
def meetLo (a b c d : Int) : Int := if meetB a b c d then max a c else 0
def meetHi (a b c d : Int) : Int := if meetB a b c d then min b d else 0
theorem mx_int (a c : Int) : (if c > a then c else a) = max a c := by omega
theorem mn_int (b d : Int) : (if d < b then d else b) = min b d := by omega
theorem smeet_fc (h : Heap) (a b c d : Int) : FC Tryd.prog 37 [.agg [.int .i64 a, .int .i64 b], .agg [.int .i64 c, .int .i64 d]] h fun r h' => r = .tup [.agg [.int .i64 (meetLo a b c d), .int .i64 (meetHi a b c d)], .bool (meetB a b c d)] ∧ h' = h := by
  refine FC.goes cf37 ?_; simp only [c37]; simp only [List.length_cons, List.length_nil, Nat.reduceAdd, Nat.reduceSub, List.replicate_succ, List.replicate_zero, List.cons_append, List.nil_append]
  simp (disch := first | omega | (simp only [List.length_append, List.length_cons, List.length_nil]; omega)) only [c37r0, c37r1, c37r2, c37r3, c37r4, c37r5, c37r6, go_sem, fill_c, ↓reduceIte, reduceCtorEq, Nat.reduceAdd, Nat.reduceSub, Nat.reducePow, Nat.reduceMul, Nat.reduceEqDiff, Nat.reduceLT, Nat.reduceLeDiff, Int.reduceToNat, Int.reduceLT, Int.reduceLE, Int.reduceEq, Int.reduceNeg, Int.reduceAdd, Int.reduceSub, Int.reduceMul]
  refine gfc_same (scheck_fc _ a b) ?_
  by_cases h1 : spanChk a b = 0
  · have e1 : decide (spanChk a b = 0) = true := decide_eq_true h1
    simp (disch := first | omega | (simp only [List.length_append, List.length_cons, List.length_nil]; omega)) only [e1, go_sem, fill_c, ↓reduceIte, reduceCtorEq, Nat.reduceAdd, Nat.reduceSub, Nat.reducePow, Nat.reduceMul, Nat.reduceEqDiff, Nat.reduceLT, Nat.reduceLeDiff, Int.reduceToNat, Int.reduceLT, Int.reduceLE, Int.reduceEq, Int.reduceNeg, Int.reduceAdd, Int.reduceSub, Int.reduceMul]
    refine gfc_same (scheck_fc _ c d) ?_
    by_cases h2 : spanChk c d = 0
    · have e2 : decide (spanChk c d = 0) = true := decide_eq_true h2
      simp (disch := first | omega | (simp only [List.length_append, List.length_cons, List.length_nil]; omega)) only [e2, mx_int, mn_int, fillD, splice0, go_sem, fill_c, ↓reduceIte, reduceCtorEq, Nat.reduceAdd, Nat.reduceSub, Nat.reducePow, Nat.reduceMul, Nat.reduceEqDiff, Nat.reduceLT, Nat.reduceLeDiff, Int.reduceToNat, Int.reduceLT, Int.reduceLE, Int.reduceEq, Int.reduceNeg, Int.reduceAdd, Int.reduceSub, Int.reduceMul]
      by_cases h3 : min b d < max a c
      · have hb : meetB a b c d = false := by simp [meetB, h3]
        have hl : meetLo a b c d = 0 := by simp [meetLo, hb]
        have hh : meetHi a b c d = 0 := by simp [meetHi, hb]
        rw [hb, hl, hh]
        simp (disch := first | omega | (simp only [List.length_append, List.length_cons, List.length_nil]; omega)) only [h3, fillD, splice0, go_sem, fill_c, ↓reduceIte, reduceCtorEq, Nat.reduceAdd, Nat.reduceSub, Nat.reducePow, Nat.reduceMul, Nat.reduceEqDiff, Nat.reduceLT, Nat.reduceLeDiff, Int.reduceToNat, Int.reduceLT, Int.reduceLE, Int.reduceEq, Int.reduceNeg, Int.reduceAdd, Int.reduceSub, Int.reduceMul]
        exact FinOk.drop (.inl rfl) (by simp [underL, underD]) ⟨rfl, rfl⟩
      · have hb : meetB a b c d = true := by simp [meetB, h1, h2, h3]
        have hl : meetLo a b c d = max a c := by simp [meetLo, hb]
        have hh : meetHi a b c d = min b d := by simp [meetHi, hb]
        rw [hb, hl, hh]
        simp (disch := first | omega | (simp only [List.length_append, List.length_cons, List.length_nil]; omega)) only [h3, fillD, splice0, go_sem, fill_c, ↓reduceIte, reduceCtorEq, Nat.reduceAdd, Nat.reduceSub, Nat.reducePow, Nat.reduceMul, Nat.reduceEqDiff, Nat.reduceLT, Nat.reduceLeDiff, Int.reduceToNat, Int.reduceLT, Int.reduceLE, Int.reduceEq, Int.reduceNeg, Int.reduceAdd, Int.reduceSub, Int.reduceMul]
        exact FinOk.drop (.inl rfl) (by simp [underL, underD]) ⟨rfl, rfl⟩
    · have hb : meetB a b c d = false := by simp [meetB, h2]
      have hl : meetLo a b c d = 0 := by simp [meetLo, hb]
      have hh : meetHi a b c d = 0 := by simp [meetHi, hb]
      rw [hb, hl, hh]
      simp (disch := first | omega | (simp only [List.length_append, List.length_cons, List.length_nil]; omega)) only [h2, fillD, splice0, go_sem, fill_c, ↓reduceIte, reduceCtorEq, Nat.reduceAdd, Nat.reduceSub, Nat.reducePow, Nat.reduceMul, Nat.reduceEqDiff, Nat.reduceLT, Nat.reduceLeDiff, Int.reduceToNat, Int.reduceLT, Int.reduceLE, Int.reduceEq, Int.reduceNeg, Int.reduceAdd, Int.reduceSub, Int.reduceMul]
      exact FinOk.drop (.inl rfl) (by simp [underL, underD]) ⟨rfl, rfl⟩
  · have hb : meetB a b c d = false := by simp [meetB, h1]
    have hl : meetLo a b c d = 0 := by simp [meetLo, hb]
    have hh : meetHi a b c d = 0 := by simp [meetHi, hb]
    rw [hb, hl, hh]
    simp (disch := first | omega | (simp only [List.length_append, List.length_cons, List.length_nil]; omega)) only [h1, fillD, splice0, go_sem, fill_c, ↓reduceIte, reduceCtorEq, Nat.reduceAdd, Nat.reduceSub, Nat.reducePow, Nat.reduceMul, Nat.reduceEqDiff, Nat.reduceLT, Nat.reduceLeDiff, Int.reduceToNat, Int.reduceLT, Int.reduceLE, Int.reduceEq, Int.reduceNeg, Int.reduceAdd, Int.reduceSub, Int.reduceMul]
    exact FinOk.drop (.inl rfl) (by simp [underL, underD]) ⟨rfl, rfl⟩
theorem rscheck_fc (h : Heap) (lo hi : Int) : FC Tryd.prog 38 [.agg [.int .i64 lo, .int .i64 hi]] h fun d h' => d = .int .i64 (spanChk lo hi) ∧ h' = h := by
  refine FC.goes cf38 ?_; simp only [c38]; simp only [List.length_cons, List.length_nil, Nat.reduceAdd, Nat.reduceSub, List.replicate_succ, List.replicate_zero, List.cons_append, List.nil_append]
  by_cases h1 : lo < 0
  · have e : spanChk lo hi = 1 := by unfold spanChk; rw [if_neg (by omega)]
    rw [e]
    simp (disch := first | omega | (simp only [List.length_append, List.length_cons, List.length_nil]; omega)) only [c38r0, c38r1, c38r2, c38r3, c38r4, c38r5, h1, go_sem, fill_c, ↓reduceIte, reduceCtorEq, Nat.reduceAdd, Nat.reduceSub, Nat.reducePow, Nat.reduceMul, Nat.reduceEqDiff, Nat.reduceLT, Nat.reduceLeDiff, Int.reduceToNat, Int.reduceLT, Int.reduceLE, Int.reduceEq, Int.reduceNeg, Int.reduceAdd, Int.reduceSub, Int.reduceMul]
    exact FinOk.drop (.inl rfl) (by simp [underL, underD]) ⟨rfl, rfl⟩
  by_cases h2 : 65535 < lo
  · have e : spanChk lo hi = 1 := by unfold spanChk; rw [if_neg (by omega)]
    rw [e]
    simp (disch := first | omega | (simp only [List.length_append, List.length_cons, List.length_nil]; omega)) only [c38r0, c38r1, c38r2, c38r3, c38r4, c38r5, h1, h2, go_sem, fill_c, ↓reduceIte, reduceCtorEq, Nat.reduceAdd, Nat.reduceSub, Nat.reducePow, Nat.reduceMul, Nat.reduceEqDiff, Nat.reduceLT, Nat.reduceLeDiff, Int.reduceToNat, Int.reduceLT, Int.reduceLE, Int.reduceEq, Int.reduceNeg, Int.reduceAdd, Int.reduceSub, Int.reduceMul]
    exact FinOk.drop (.inl rfl) (by simp [underL, underD]) ⟨rfl, rfl⟩
  by_cases h3 : hi < 0
  · have e : spanChk lo hi = 1 := by unfold spanChk; rw [if_neg (by omega)]
    rw [e]
    simp (disch := first | omega | (simp only [List.length_append, List.length_cons, List.length_nil]; omega)) only [c38r0, c38r1, c38r2, c38r3, c38r4, c38r5, h1, h2, h3, go_sem, fill_c, ↓reduceIte, reduceCtorEq, Nat.reduceAdd, Nat.reduceSub, Nat.reducePow, Nat.reduceMul, Nat.reduceEqDiff, Nat.reduceLT, Nat.reduceLeDiff, Int.reduceToNat, Int.reduceLT, Int.reduceLE, Int.reduceEq, Int.reduceNeg, Int.reduceAdd, Int.reduceSub, Int.reduceMul]
    exact FinOk.drop (.inl rfl) (by simp [underL, underD]) ⟨rfl, rfl⟩
  by_cases h4 : 65535 < hi
  · have e : spanChk lo hi = 1 := by unfold spanChk; rw [if_neg (by omega)]
    rw [e]
    simp (disch := first | omega | (simp only [List.length_append, List.length_cons, List.length_nil]; omega)) only [c38r0, c38r1, c38r2, c38r3, c38r4, c38r5, h1, h2, h3, h4, go_sem, fill_c, ↓reduceIte, reduceCtorEq, Nat.reduceAdd, Nat.reduceSub, Nat.reducePow, Nat.reduceMul, Nat.reduceEqDiff, Nat.reduceLT, Nat.reduceLeDiff, Int.reduceToNat, Int.reduceLT, Int.reduceLE, Int.reduceEq, Int.reduceNeg, Int.reduceAdd, Int.reduceSub, Int.reduceMul]
    exact FinOk.drop (.inl rfl) (by simp [underL, underD]) ⟨rfl, rfl⟩
  by_cases h5 : hi < lo
  · have e : spanChk lo hi = 6 := by unfold spanChk; rw [if_pos (by omega), if_pos h5]
    rw [e]
    simp (disch := first | omega | (simp only [List.length_append, List.length_cons, List.length_nil]; omega)) only [c38r0, c38r1, c38r2, c38r3, c38r4, c38r5, h1, h2, h3, h4, h5, go_sem, fill_c, ↓reduceIte, reduceCtorEq, Nat.reduceAdd, Nat.reduceSub, Nat.reducePow, Nat.reduceMul, Nat.reduceEqDiff, Nat.reduceLT, Nat.reduceLeDiff, Int.reduceToNat, Int.reduceLT, Int.reduceLE, Int.reduceEq, Int.reduceNeg, Int.reduceAdd, Int.reduceSub, Int.reduceMul]
    exact FinOk.drop (.inl rfl) (by simp [underL, underD]) ⟨rfl, rfl⟩
  · have e : spanChk lo hi = 0 := by unfold spanChk; rw [if_pos (by omega), if_neg h5]
    rw [e]
    simp (disch := first | omega | (simp only [List.length_append, List.length_cons, List.length_nil]; omega)) only [c38r0, c38r1, c38r2, c38r3, c38r4, c38r5, h1, h2, h3, h4, h5, go_sem, fill_c, ↓reduceIte, reduceCtorEq, Nat.reduceAdd, Nat.reduceSub, Nat.reducePow, Nat.reduceMul, Nat.reduceEqDiff, Nat.reduceLT, Nat.reduceLeDiff, Int.reduceToNat, Int.reduceLT, Int.reduceLE, Int.reduceEq, Int.reduceNeg, Int.reduceAdd, Int.reduceSub, Int.reduceMul]
    exact FinOk.drop (.inl rfl) (by simp [underL, underD]) ⟨rfl, rfl⟩
theorem rsmeet_fc (h : Heap) (a b c d : Int) : FC Tryd.prog 18 [.agg [.int .i64 a, .int .i64 b], .agg [.int .i64 c, .int .i64 d]] h fun r h' => r = .tup [.agg [.int .i64 (meetLo a b c d), .int .i64 (meetHi a b c d)], .bool (meetB a b c d)] ∧ h' = h := by
  refine FC.goes cf18 ?_; simp only [c18]; simp only [List.length_cons, List.length_nil, Nat.reduceAdd, Nat.reduceSub, List.replicate_succ, List.replicate_zero, List.cons_append, List.nil_append]
  simp (disch := first | omega | (simp only [List.length_append, List.length_cons, List.length_nil]; omega)) only [c18r0, c18r1, c18r2, c18r3, c18r4, mx_int, mn_int, fillD, splice0, go_sem, fill_c, ↓reduceIte, reduceCtorEq, Nat.reduceAdd, Nat.reduceSub, Nat.reducePow, Nat.reduceMul, Nat.reduceEqDiff, Nat.reduceLT, Nat.reduceLeDiff, Int.reduceToNat, Int.reduceLT, Int.reduceLE, Int.reduceEq, Int.reduceNeg, Int.reduceAdd, Int.reduceSub, Int.reduceMul]
  refine gfc_same (rscheck_fc _ a b) ?_
  by_cases h1 : spanChk a b = 0
  · have e1 : decide (spanChk a b = 0) = true := decide_eq_true h1
    simp (disch := first | omega | (simp only [List.length_append, List.length_cons, List.length_nil]; omega)) only [e1, go_sem, fill_c, ↓reduceIte, reduceCtorEq, Nat.reduceAdd, Nat.reduceSub, Nat.reducePow, Nat.reduceMul, Nat.reduceEqDiff, Nat.reduceLT, Nat.reduceLeDiff, Int.reduceToNat, Int.reduceLT, Int.reduceLE, Int.reduceEq, Int.reduceNeg, Int.reduceAdd, Int.reduceSub, Int.reduceMul]
    refine gfc_same (rscheck_fc _ c d) ?_
    by_cases h2 : spanChk c d = 0
    · have e2 : decide (spanChk c d = 0) = true := decide_eq_true h2
      by_cases h3 : min b d < max a c
      · have hb : meetB a b c d = false := by simp [meetB, h3]
        have hl : meetLo a b c d = 0 := by simp [meetLo, hb]
        have hh : meetHi a b c d = 0 := by simp [meetHi, hb]
        rw [hb, hl, hh]
        simp (disch := first | omega | (simp only [List.length_append, List.length_cons, List.length_nil]; omega)) only [e2, h3, fillD, splice0, go_sem, fill_c, ↓reduceIte, reduceCtorEq, Nat.reduceAdd, Nat.reduceSub, Nat.reducePow, Nat.reduceMul, Nat.reduceEqDiff, Nat.reduceLT, Nat.reduceLeDiff, Int.reduceToNat, Int.reduceLT, Int.reduceLE, Int.reduceEq, Int.reduceNeg, Int.reduceAdd, Int.reduceSub, Int.reduceMul]
        exact FinOk.drop (.inl rfl) (by simp [underL, underD]) ⟨rfl, rfl⟩
      · have hb : meetB a b c d = true := by simp [meetB, h1, h2, h3]
        have hl : meetLo a b c d = max a c := by simp [meetLo, hb]
        have hh : meetHi a b c d = min b d := by simp [meetHi, hb]
        rw [hb, hl, hh]
        simp (disch := first | omega | (simp only [List.length_append, List.length_cons, List.length_nil]; omega)) only [e2, h3, fillD, splice0, go_sem, fill_c, ↓reduceIte, reduceCtorEq, Nat.reduceAdd, Nat.reduceSub, Nat.reducePow, Nat.reduceMul, Nat.reduceEqDiff, Nat.reduceLT, Nat.reduceLeDiff, Int.reduceToNat, Int.reduceLT, Int.reduceLE, Int.reduceEq, Int.reduceNeg, Int.reduceAdd, Int.reduceSub, Int.reduceMul]
        exact FinOk.drop (.inl rfl) (by simp [underL, underD]) ⟨rfl, rfl⟩
    · have hb : meetB a b c d = false := by simp [meetB, h2]
      have hl : meetLo a b c d = 0 := by simp [meetLo, hb]
      have hh : meetHi a b c d = 0 := by simp [meetHi, hb]
      rw [hb, hl, hh]
      simp (disch := first | omega | (simp only [List.length_append, List.length_cons, List.length_nil]; omega)) only [h2, fillD, splice0, go_sem, fill_c, ↓reduceIte, reduceCtorEq, Nat.reduceAdd, Nat.reduceSub, Nat.reducePow, Nat.reduceMul, Nat.reduceEqDiff, Nat.reduceLT, Nat.reduceLeDiff, Int.reduceToNat, Int.reduceLT, Int.reduceLE, Int.reduceEq, Int.reduceNeg, Int.reduceAdd, Int.reduceSub, Int.reduceMul]
      exact FinOk.drop (.inl rfl) (by simp [underL, underD]) ⟨rfl, rfl⟩
  · have hb : meetB a b c d = false := by simp [meetB, h1]
    have hl : meetLo a b c d = 0 := by simp [meetLo, hb]
    have hh : meetHi a b c d = 0 := by simp [meetHi, hb]
    rw [hb, hl, hh]
    simp (disch := first | omega | (simp only [List.length_append, List.length_cons, List.length_nil]; omega)) only [h1, fillD, splice0, go_sem, fill_c, ↓reduceIte, reduceCtorEq, Nat.reduceAdd, Nat.reduceSub, Nat.reducePow, Nat.reduceMul, Nat.reduceEqDiff, Nat.reduceLT, Nat.reduceLeDiff, Int.reduceToNat, Int.reduceLT, Int.reduceLE, Int.reduceEq, Int.reduceNeg, Int.reduceAdd, Int.reduceSub, Int.reduceMul]
    exact FinOk.drop (.inl rfl) (by simp [underL, underD]) ⟨rfl, rfl⟩
end Go.Proofs
