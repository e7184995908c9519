/-
  Own work. The walk of ShadowTrue.
-/
import Derived.Test.YtodlpcoffmnmbaaJc
import Derived.Test.YtodlpcoffmnmbaaJd
import Derived.Test.YtodlpcoffmnmbaaRb
namespace Go.Proofs
open Go Go.Ytodlpcoffmnmbaa
set_option linter.unusedVariables false
set_option linter.unusedSimpArgs false
set_option maxRecDepth 10000

/-! ### weighbridge/weighbridgelaw23.ShadowTrue, params 3 -/
def c3r0 : List AStm := [.op (some 3) none (.box (.t 0)),
    .op (some 4) none (.box (.t 1)),
    .op (some 5) none (.box (.t 2)),
    .op (some 6) none (.mv (.c (.bool false)))]
def c3r1 : List AStm := []
def c3r2 : List AStm := [.op (some 11) none (.load (some 43) (.t 3)),
    .op (some 12) none (.load (some 38) (.t 5)),
    .op (some 14) none (.load (some 43) (.t 4)),
    .op (some 15) none (.load (some 38) (.t 5)),
    .callG (some 13) none (.c (.fn (.func 8) [] [])) [(.t 11), (.t 12)],
    .call (some 16) none (.c (.fn (.func 8) [] [])) [(.t 14), (.t 15)],
    .op (some 7) none (.mv (.t 13)),
    .op (some 8) none (.mv (.t 16))]
def c3r3 : List AStm := [.op (some 17) none (.load (some 43) (.t 3)),
    .op (some 18) none (.load (some 43) (.t 4)),
    .call (some 19) none (.c (.fn (.func 9) [] [])) [(.t 17), (.t 18)],
    .op (some 20) none (.mv (.t 19)),
    .op (some 21) (some (20, true)) (.mv (.t 8)),
    .op (some 22) none (.pick (.t 20) (.t 21) (.c (.bool false))),
    .op (some 23) none (.mv (.t 22)),
    .op (some 24) (some (23, true)) (.mv (.t 7)),
    .op (some 25) (some (23, true)) (.un .not (.t 24)),
    .op (some 26) none (.pick (.t 23) (.t 25) (.c (.bool false))),
    .op (some 27) none (.mv (.t 26)),
    .op (some 28) (some (27, false)) (.mv (.t 7)),
    .op (some 29) (some (27, false)) (.mv (.t 28)),
    .op (some 30) (some (29, true)) (.mv (.t 8)),
    .op (some 31) (some (27, false)) (.pick (.t 29) (.t 30) (.c (.bool false))),
    .op (some 32) (some (27, false)) (.mv (.t 31)),
    .op (some 33) (some (32, true)) (.load (some 43) (.t 3)),
    .op (some 34) (some (32, true)) (.load (some 43) (.t 4)),
    .call (some 35) (some (32, true)) (.c (.fn (.func 10) [] [])) [(.t 33), (.t 34)],
    .op (some 36) (some (32, true)) (.un .not (.t 35)),
    .op (some 37) (some (27, false)) (.pick (.t 32) (.t 36) (.c (.bool false))),
    .op (some 38) none (.pick (.t 27) (.c (.bool true)) (.t 37))]
def c3r4 : List AStm := [.op (some 6) none (.mv (.c (.bool false)))]
def c3r5 : List AStm := [.op (some 40) none (.load (some 43) (.t 3)),
    .op (some 41) none (.load (some 43) (.t 4)),
    .call (some 42) none (.c (.fn (.func 11) [] [])) [(.t 40), (.t 41)],
    .op (some 39) none (.mv (.t 42)),
    .op (some 43) none (.ext (.t 39) 0),
    .op (some 44) none (.ext (.t 39) 1),
    .op (some 9) none (.alloc [(.int .i64 0), (.int .u8 0), (.int .u8 0), (.int .u8 0), (.int .u8 0), (.int .u8 0), (.int .u8 0), (.int .u8 0), (.int .u8 0), (.int .u8 0), (.int .u8 0), (.int .u8 0), (.int .u8 0), (.int .u8 0), (.int .u8 0), (.int .u8 0), (.int .u8 0), (.int .u8 0), (.int .u8 0), (.int .u8 0), (.int .u8 0), (.int .u8 0), (.int .u8 0), (.int .u8 0), (.int .u8 0), (.int .u8 0), (.int .u8 0), (.int .u8 0), (.int .u8 0), (.int .u8 0), (.int .u8 0), (.int .u8 0), (.int .u8 0), (.int .i64 0), (.int .i64 0), (.bool false), (.int .i64 0), (.int .i64 0)]),
    .op none none (.store 38 (.t 9) (.t 43)),
    .op (some 10) none (.mv (.t 44))]
def c3r6 : List AStm := [.op (some 45) none (.mv (.t 10)),
    .op (some 46) none (.load (some 43) (.t 3)),
    .op (some 47) none (.load (some 43) (.t 4)),
    .call (some 48) none (.c (.fn (.func 10) [] [])) [(.t 46), (.t 47)],
    .op (some 49) none (.eqb true (.t 45) (.t 48))]
def c3r7 : List AStm := [.op (some 6) none (.mv (.c (.bool false)))]
def c3r8 : List AStm := [.op (some 50) none (.mv (.t 10))]
def c3r9 : List AStm := [.call (some 51) none (.c (.fn (.func 12) [] [])) [],
    .op (some 52) none (.mv (.t 51)),
    .op (some 53) (some (52, true)) (.load (some 43) (.t 3)),
    .op (some 54) (some (52, true)) (.load (some 38) (.t 9)),
    .call (some 55) (some (52, true)) (.c (.fn (.func 8) [] [])) [(.t 53), (.t 54)],
    .op (some 56) none (.pick (.t 52) (.t 55) (.c (.bool false))),
    .op (some 57) none (.mv (.t 56)),
    .op (some 58) (some (57, true)) (.load (some 43) (.t 4)),
    .op (some 59) (some (57, true)) (.load (some 38) (.t 9)),
    .call (some 60) (some (57, true)) (.c (.fn (.func 8) [] [])) [(.t 58), (.t 59)],
    .op (some 61) none (.pick (.t 57) (.t 60) (.c (.bool false))),
    .op (some 6) none (.mv (.t 61))]
def c3r10 : List AStm := [.call (some 62) none (.c (.fn (.func 12) [] [])) [],
    .op (some 63) none (.mv (.t 62)),
    .op (some 64) (some (63, true)) (.load (some 43) (.t 3)),
    .op (some 65) (some (63, true)) (.load (some 43) (.t 4)),
    .call (some 66) (some (63, true)) (.c (.fn (.func 9) [] [])) [(.t 64), (.t 65)],
    .op (some 67) (some (63, true)) (.un .not (.t 66)),
    .op (some 68) (some (63, true)) (.mv (.t 67)),
    .op (some 69) (some (68, false)) (.load (some 43) (.t 4)),
    .call (some 70) (some (68, false)) (.c (.fn (.func 13) [] [])) [(.t 69)],
    .op (some 71) (some (68, false)) (.bin .neq (.t 70) (.c (.int .i64 0))),
    .op (some 72) (some (63, true)) (.pick (.t 68) (.c (.bool true)) (.t 71)),
    .op (some 73) none (.pick (.t 63) (.t 72) (.c (.bool false))),
    .op (some 6) none (.mv (.t 73))]
def c3 : CF := ⟨.seq (.reg c3r0) (.seq (.dreg c3r1 c3r2) (.seq (.seq (.reg c3r3) (.cond (.t 38) (.seq (.reg c3r4) (.ret)) (.skip))) (.seq (.reg c3r5) (.seq (.seq (.reg c3r6) (.cond (.t 49) (.seq (.reg c3r7) (.ret)) (.skip))) (.seq (.seq (.reg c3r8) (.cond (.t 50) (.seq (.reg c3r9) (.ret)) (.skip))) (.seq (.reg c3r10) (.ret))))))), [.tmp 6], 74⟩
theorem cf3 : cfun Try.prog 3 = some c3 := by kernel_rfl



theorem true_law (h : Heap) (a b : Ru) (k : Ky) (oa : a.Ok) (ob : b.Ok) (ok : k.Ok) : FC Try.prog 3 [.agg (ru a), .agg (ru b), .agg (ky k)] h fun d h' => d = .bool true ∧ h' = h := by
  have la := ru_len oa
  have lb := ru_len ob
  have lk := ky_len ok
  have tk := ky_take ok
  have ok1 := ky_one ok
  have kw := witK_ok oa ob
  have kl := ky_len kw
  have k1 := ky_one kw
  have kt := ky_take kw
  refine FC.goes cf3 ?_; simp only [c3]; simp only [List.length_cons, List.length_nil, Nat.reduceAdd, Nat.reduceSub, List.replicate_succ, List.replicate_zero, List.cons_append, List.nil_append]
  simp (disch := first | omega | (simp only [List.length_append, List.length_cons, List.length_nil]; omega)) only [c3r0, c3r1, c3r2, c3r3, c3r4, c3r5, c3r6, c3r7, c3r8, c3r9, c3r10, la, lb, ru_one, ru_take, oa, ob, lk, tk, ok1, go_sem, ↓reduceIte, reduceCtorEq, Nat.reduceAdd, Nat.reduceSub, Nat.reducePow, Nat.reduceMul, Nat.reduceEqDiff, Nat.reduceLT, Nat.reduceLeDiff, Int.reduceToNat, Int.reduceLT, Int.reduceLE, Int.reduceEq, Int.reduceNeg, Int.reduceAdd, Int.reduceSub, Int.reduceMul]
  refine xfc_same (matches_fc _ a oa k ok) ?_
  simp (disch := first | omega | (simp only [List.length_append, List.length_cons, List.length_nil]; omega)) only [la, lb, ru_one, ru_take, oa, ob, lk, tk, ok1, go_sem, ↓reduceIte, reduceCtorEq, Nat.reduceAdd, Nat.reduceSub, Nat.reducePow, Nat.reduceMul, Nat.reduceEqDiff, Nat.reduceLT, Nat.reduceLeDiff, Int.reduceToNat, Int.reduceLT, Int.reduceLE, Int.reduceEq, Int.reduceNeg, Int.reduceAdd, Int.reduceSub, Int.reduceMul]
  refine gfc_same (matches_fc _ b ob k ok) ?_
  simp (disch := first | omega | (simp only [List.length_append, List.length_cons, List.length_nil]; omega)) only [la, lb, ru_one, ru_take, oa, ob, lk, tk, ok1, go_sem, ↓reduceIte, reduceCtorEq, Nat.reduceAdd, Nat.reduceSub, Nat.reducePow, Nat.reduceMul, Nat.reduceEqDiff, Nat.reduceLT, Nat.reduceLeDiff, Int.reduceToNat, Int.reduceLT, Int.reduceLE, Int.reduceEq, Int.reduceNeg, Int.reduceAdd, Int.reduceSub, Int.reduceMul]
  refine gfc_same (covers_fc _ a b oa ob) ?_
  have t1 : ruMatch b k = true → coversF a b = true → ruMatch a k = true := fun h1 h2 => covers_match h2 h1
  have t2 : ruMatch a k = true → ruMatch b k = true → witB a b = true := match_meets
  have t3 : coversF a b = true → witB a b = true := covers_meets
  have t4 : witB a b = true → ruMatch a (witK a b) = true ∧ ruMatch b (witK a b) = true := wit_match
  cases hy : ruMatch b k <;> cases hx : ruMatch a k <;> cases hc : coversF a b
  all_goals first
    | (exfalso; have hz := t1 hy hc; rw [hx] at hz; cases hz; done)
    | skip
  all_goals simp (disch := first | omega | (simp only [List.length_append, List.length_cons, List.length_nil]; omega)) only [la, lb, ru_one, ru_take, oa, ob, go_sem, ↓reduceIte, reduceCtorEq, Nat.reduceAdd, Nat.reduceSub, Nat.reducePow, Nat.reduceMul, Nat.reduceEqDiff, Nat.reduceLT, Nat.reduceLeDiff, Int.reduceToNat, Int.reduceLT, Int.reduceLE, Int.reduceEq, Int.reduceNeg, Int.reduceAdd, Int.reduceSub, Int.reduceMul]
  all_goals first
    | refine gfc_same (witness_fc _ a b oa ob) ?_
    | (refine gfc_same (meets_fc _ a b oa ob) ?_
       have hw := t2 hx hy
       rw [hw]
       simp (disch := first | omega | (simp only [List.length_append, List.length_cons, List.length_nil]; omega)) only [la, lb, ru_one, ru_take, oa, ob, go_sem, ↓reduceIte, reduceCtorEq, Nat.reduceAdd, Nat.reduceSub, Nat.reducePow, Nat.reduceMul, Nat.reduceEqDiff, Nat.reduceLT, Nat.reduceLeDiff, Int.reduceToNat, Int.reduceLT, Int.reduceLE, Int.reduceEq, Int.reduceNeg, Int.reduceAdd, Int.reduceSub, Int.reduceMul]
       refine gfc_same (witness_fc _ a b oa ob) ?_)
  all_goals simp (disch := first | omega | (simp only [List.length_append, List.length_cons, List.length_nil]; omega)) only [la, lb, ru_one, ru_take, oa, ob, kl, k1, kt, go_sem, ↓reduceIte, reduceCtorEq, Nat.reduceAdd, Nat.reduceSub, Nat.reducePow, Nat.reduceMul, Nat.reduceEqDiff, Nat.reduceLT, Nat.reduceLeDiff, Int.reduceToNat, Int.reduceLT, Int.reduceLE, Int.reduceEq, Int.reduceNeg, Int.reduceAdd, Int.reduceSub, Int.reduceMul]
  all_goals refine gfc_same (meets_fc _ a b oa ob) ?_
  all_goals cases hw : witB a b
  all_goals simp (disch := first | omega | (simp only [List.length_append, List.length_cons, List.length_nil]; omega)) only [la, lb, ru_one, ru_take, oa, ob, kl, k1, kt, bool_same, go_sem, ↓reduceIte, reduceCtorEq, Nat.reduceAdd, Nat.reduceSub, Nat.reducePow, Nat.reduceMul, Nat.reduceEqDiff, Nat.reduceLT, Nat.reduceLeDiff, Int.reduceToNat, Int.reduceLT, Int.reduceLE, Int.reduceEq, Int.reduceNeg, Int.reduceAdd, Int.reduceSub, Int.reduceMul]
  all_goals (try refine gfc_same (L23.live23 _) ?_)
  all_goals simp (disch := first | omega | (simp only [List.length_append, List.length_cons, List.length_nil]; omega)) only [la, lb, ru_one, ru_take, oa, ob, kl, k1, kt, bool_same, go_sem, ↓reduceIte, reduceCtorEq, Nat.reduceAdd, Nat.reduceSub, Nat.reducePow, Nat.reduceMul, Nat.reduceEqDiff, Nat.reduceLT, Nat.reduceLeDiff, Int.reduceToNat, Int.reduceLT, Int.reduceLE, Int.reduceEq, Int.reduceNeg, Int.reduceAdd, Int.reduceSub, Int.reduceMul]
  all_goals first
    | (exfalso; have hz := t3 hc; rw [hw] at hz; cases hz; done)
    | (refine gfc_same (covers_fc _ a b oa ob) ?_
       rw [hc]
       simp (disch := first | omega | (simp only [List.length_append, List.length_cons, List.length_nil]; omega)) only [go_sem, ↓reduceIte, reduceCtorEq, Nat.reduceAdd, Nat.reduceSub, Nat.reducePow, Nat.reduceMul, Nat.reduceEqDiff, Nat.reduceLT, Nat.reduceLeDiff, Int.reduceToNat, Int.reduceLT, Int.reduceLE, Int.reduceEq, Int.reduceNeg, Int.reduceAdd, Int.reduceSub, Int.reduceMul]
       exact FinOk.drop (.inl rfl) (by simp [underL, underD]) ⟨rfl, rfl⟩)
    | (refine gfc_same (matches_fc _ a oa _ kw) ?_
       rw [(t4 hw).1]
       simp (disch := first | omega | (simp only [List.length_append, List.length_cons, List.length_nil]; omega)) only [la, lb, ru_one, ru_take, oa, ob, kl, k1, kt, go_sem, ↓reduceIte, reduceCtorEq, Nat.reduceAdd, Nat.reduceSub, Nat.reducePow, Nat.reduceMul, Nat.reduceEqDiff, Nat.reduceLT, Nat.reduceLeDiff, Int.reduceToNat, Int.reduceLT, Int.reduceLE, Int.reduceEq, Int.reduceNeg, Int.reduceAdd, Int.reduceSub, Int.reduceMul]
       refine gfc_same (matches_fc _ b ob _ kw) ?_
       rw [(t4 hw).2]
       simp (disch := first | omega | (simp only [List.length_append, List.length_cons, List.length_nil]; omega)) only [la, lb, ru_one, ru_take, oa, ob, kl, k1, kt, go_sem, ↓reduceIte, reduceCtorEq, Nat.reduceAdd, Nat.reduceSub, Nat.reducePow, Nat.reduceMul, Nat.reduceEqDiff, Nat.reduceLT, Nat.reduceLeDiff, Int.reduceToNat, Int.reduceLT, Int.reduceLE, Int.reduceEq, Int.reduceNeg, Int.reduceAdd, Int.reduceSub, Int.reduceMul]
       exact FinOk.drop (.inl rfl) (by simp [underL, underD]) ⟨rfl, rfl⟩)
theorem true_row (h : Heap) (x0 : (Sh.pair (.pair (.int .i64) (.pair (.arr 16 (.int .u8)) (.pair (.int .i64) .unit))) (.pair (.pair (.int .i64) (.pair (.arr 16 (.int .u8)) (.pair (.int .i64) .unit))) (.pair (.pair (.int .i64) (.pair (.int .i64) .unit)) (.pair (.pair (.int .i64) (.pair (.int .i64) .unit)) (.pair (.int .i64) (.pair (.int .i64) (.pair (.int .i64) .unit))))))).T) (ok0 : (Sh.pair (.pair (.int .i64) (.pair (.arr 16 (.int .u8)) (.pair (.int .i64) .unit))) (.pair (.pair (.int .i64) (.pair (.arr 16 (.int .u8)) (.pair (.int .i64) .unit))) (.pair (.pair (.int .i64) (.pair (.int .i64) .unit)) (.pair (.pair (.int .i64) (.pair (.int .i64) .unit)) (.pair (.int .i64) (.pair (.int .i64) (.pair (.int .i64) .unit))))))).ok x0) (x1 : (Sh.pair (.pair (.int .i64) (.pair (.arr 16 (.int .u8)) (.pair (.int .i64) .unit))) (.pair (.pair (.int .i64) (.pair (.arr 16 (.int .u8)) (.pair (.int .i64) .unit))) (.pair (.pair (.int .i64) (.pair (.int .i64) .unit)) (.pair (.pair (.int .i64) (.pair (.int .i64) .unit)) (.pair (.int .i64) (.pair (.int .i64) (.pair (.int .i64) .unit))))))).T) (ok1 : (Sh.pair (.pair (.int .i64) (.pair (.arr 16 (.int .u8)) (.pair (.int .i64) .unit))) (.pair (.pair (.int .i64) (.pair (.arr 16 (.int .u8)) (.pair (.int .i64) .unit))) (.pair (.pair (.int .i64) (.pair (.int .i64) .unit)) (.pair (.pair (.int .i64) (.pair (.int .i64) .unit)) (.pair (.int .i64) (.pair (.int .i64) (.pair (.int .i64) .unit))))))).ok x1) (x2 : (Sh.pair (.int .i64) (.pair (.arr 16 (.int .u8)) (.pair (.arr 16 (.int .u8)) (.pair (.int .i64) (.pair (.int .i64) (.pair .bool (.pair (.int .i64) (.pair (.int .i64) .unit)))))))).T) (ok2 : (Sh.pair (.int .i64) (.pair (.arr 16 (.int .u8)) (.pair (.arr 16 (.int .u8)) (.pair (.int .i64) (.pair (.int .i64) (.pair .bool (.pair (.int .i64) (.pair (.int .i64) .unit)))))))).ok x2)
    (hv : (Sh.pair (.pair (.int .i64) (.pair (.arr 16 (.int .u8)) (.pair (.int .i64) .unit))) (.pair (.pair (.int .i64) (.pair (.arr 16 (.int .u8)) (.pair (.int .i64) .unit))) (.pair (.pair (.int .i64) (.pair (.int .i64) .unit)) (.pair (.pair (.int .i64) (.pair (.int .i64) .unit)) (.pair (.int .i64) (.pair (.int .i64) (.pair (.int .i64) .unit))))))).vol x0 + (Sh.pair (.pair (.int .i64) (.pair (.arr 16 (.int .u8)) (.pair (.int .i64) .unit))) (.pair (.pair (.int .i64) (.pair (.arr 16 (.int .u8)) (.pair (.int .i64) .unit))) (.pair (.pair (.int .i64) (.pair (.int .i64) .unit)) (.pair (.pair (.int .i64) (.pair (.int .i64) .unit)) (.pair (.int .i64) (.pair (.int .i64) (.pair (.int .i64) .unit))))))).vol x1 + (Sh.pair (.int .i64) (.pair (.arr 16 (.int .u8)) (.pair (.arr 16 (.int .u8)) (.pair (.int .i64) (.pair (.int .i64) (.pair .bool (.pair (.int .i64) (.pair (.int .i64) .unit)))))))).vol x2 ≤ 1048576)
    (D0 : D) (en0 : (Sh.pair (.pair (.int .i64) (.pair (.arr 16 (.int .u8)) (.pair (.int .i64) .unit))) (.pair (.pair (.int .i64) (.pair (.arr 16 (.int .u8)) (.pair (.int .i64) .unit))) (.pair (.pair (.int .i64) (.pair (.int .i64) .unit)) (.pair (.pair (.int .i64) (.pair (.int .i64) .unit)) (.pair (.int .i64) (.pair (.int .i64) (.pair (.int .i64) .unit))))))).EncV x0 D0) (D1 : D) (en1 : (Sh.pair (.pair (.int .i64) (.pair (.arr 16 (.int .u8)) (.pair (.int .i64) .unit))) (.pair (.pair (.int .i64) (.pair (.arr 16 (.int .u8)) (.pair (.int .i64) .unit))) (.pair (.pair (.int .i64) (.pair (.int .i64) .unit)) (.pair (.pair (.int .i64) (.pair (.int .i64) .unit)) (.pair (.int .i64) (.pair (.int .i64) (.pair (.int .i64) .unit))))))).EncV x1 D1) (D2 : D) (en2 : (Sh.pair (.int .i64) (.pair (.arr 16 (.int .u8)) (.pair (.arr 16 (.int .u8)) (.pair (.int .i64) (.pair (.int .i64) (.pair .bool (.pair (.int .i64) (.pair (.int .i64) .unit)))))))).EncV x2 D2) : FC Try.prog 3 [D0, D1, D2] h fun d h' => d = .bool true ∧ h' = h := by
  obtain ⟨a, oa, rfl⟩ := ru_open ok0 en0
  obtain ⟨b, ob, rfl⟩ := ru_open ok1 en1
  obtain ⟨k, ok, rfl⟩ := ky_open ok2 en2
  exact true_law h a b k oa ob ok
end Go.Proofs
