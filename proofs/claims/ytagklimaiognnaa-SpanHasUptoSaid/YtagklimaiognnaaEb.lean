/-
  Own work. The walk of SpanHas.
-/
import Derived.Test.YtagklimaiognnaaEa
import Derived.Test.YtagklimaiognnaaSa
namespace Go.Proofs
open Go Go.Ytagklimaiognnaa
set_option linter.unusedVariables false
set_option linter.unusedSimpArgs false
set_option maxRecDepth 10000

/-! ### weighbridge/weighbridgelaw08.SpanHas, params 3 -/
def c3r0 : List AStm := [.op (some 3) none (.box (.t 0)),
    .op (some 4) none (.box (.t 1)),
    .op (some 6) none (.mv (.c (.bool false)))]
def c3r1 : List AStm := [.op (some 12) none (.load (some 2) (.t 3)),
    .op (some 13) none (.load (some 2) (.t 4)),
    .call (some 14) none (.c (.fn (.func 10) [] [])) [(.t 12), (.t 13)],
    .op (some 11) none (.mv (.t 14)),
    .op (some 15) none (.ext (.t 11) 0),
    .op (some 16) none (.ext (.t 11) 1),
    .op (some 7) none (.alloc [(.int .i64 0), (.int .i64 0)]),
    .op none none (.store 2 (.t 7) (.t 15)),
    .op (some 8) none (.mv (.t 16))]
def c3r2 : List AStm := [.op (some 18) none (.load (some 2) (.t 3)),
    .op (some 19) none (.load (some 2) (.t 4)),
    .call (some 20) none (.c (.fn (.func 11) [] [])) [(.t 18), (.t 19)],
    .op (some 17) none (.mv (.t 20)),
    .op (some 21) none (.ext (.t 17) 0),
    .op (some 22) none (.ext (.t 17) 1),
    .op (some 9) none (.alloc [(.int .i64 0), (.int .i64 0)]),
    .op none none (.store 2 (.t 9) (.t 21)),
    .op (some 10) none (.mv (.t 22))]
def c3r3 : List AStm := []
def c3r4 : List AStm := [.callG (some 23) none (.c (.fn (.func 12) [] [])) [],
    .op (some 24) none (.mv (.t 23)),
    .op (some 25) (some (24, true)) (.load (some 2) (.t 3)),
    .op (some 27) (some (24, true)) (.load (some 2) (.t 3)),
    .callG (some 26) (some (24, true)) (.c (.fn (.func 13) [] [])) [(.t 25)],
    .callG (some 28) (some (24, true)) (.c (.fn (.func 14) [] [])) [(.t 27)],
    .op (some 29) (some (24, true)) (.bin .eql (.t 26) (.t 28)),
    .op (some 30) none (.pick (.t 24) (.t 29) (.c (.bool false))),
    .op (some 31) none (.mv (.t 30)),
    .op (some 32) (some (31, true)) (.load (some 2) (.t 3)),
    .op (some 33) (some (31, true)) (.mv (.t 2)),
    .op (some 35) (some (31, true)) (.load (some 2) (.t 3)),
    .op (some 36) (some (31, true)) (.mv (.t 2)),
    .callG (some 34) (some (31, true)) (.c (.fn (.func 15) [] [])) [(.t 32), (.t 33)],
    .callG (some 37) (some (31, true)) (.c (.fn (.func 16) [] [])) [(.t 35), (.t 36)],
    .op (some 38) (some (31, true)) (.eqb false (.t 34) (.t 37)),
    .op (some 39) none (.pick (.t 31) (.t 38) (.c (.bool false))),
    .op (some 40) none (.mv (.t 39)),
    .op (some 41) (some (40, true)) (.load (some 2) (.t 7)),
    .op (some 42) (some (40, true)) (.load (some 2) (.t 9)),
    .op (some 43) (some (40, true)) (.eqa false [.ki, .ki] (.t 41) (.t 42)),
    .op (some 44) none (.pick (.t 40) (.t 43) (.c (.bool false))),
    .op (some 45) none (.mv (.t 44)),
    .op (some 46) (some (45, true)) (.mv (.t 8)),
    .op (some 47) (some (45, true)) (.mv (.t 10)),
    .op (some 48) (some (45, true)) (.eqb false (.t 46) (.t 47)),
    .op (some 49) none (.pick (.t 45) (.t 48) (.c (.bool false))),
    .op (some 6) none (.mv (.t 49))]
def c3 : CF := ⟨.seq (.reg c3r0) (.seq (.reg c3r1) (.seq (.reg c3r2) (.seq (.dreg c3r3 c3r4) (.ret)))), [.tmp 6], 50⟩
theorem cf3 : cfun Try.prog 3 = some c3 := by kernel_rfl



theorem shas_law (h : Heap) (a b c d n : Int) : FC Try.prog 3 [.agg [.int .i64 a, .int .i64 b], .agg [.int .i64 c, .int .i64 d], .int .i64 n] h fun d h' => d = .bool true ∧ h' = h := by
  refine FC.goes cf3 ?_; simp only [c3]; simp only [List.length_cons, List.length_nil, Nat.reduceAdd, Nat.reduceSub, List.replicate_succ, List.replicate_zero, List.cons_append, List.nil_append]
  simp (disch := first | omega | (simp only [List.length_append, List.length_cons, List.length_nil]; omega)) only [c3r0, c3r1, c3r2, c3r3, c3r4, go_sem, fill_c, ↓reduceIte, reduceCtorEq, Nat.reduceAdd, Nat.reduceSub, Nat.reducePow, Nat.reduceMul, Nat.reduceEqDiff, Nat.reduceLT, Nat.reduceLeDiff, Int.reduceToNat, Int.reduceLT, Int.reduceLE, Int.reduceEq, Int.reduceNeg, Int.reduceAdd, Int.reduceSub, Int.reduceMul]
  refine gfc_same (smeet_fc _ a b c d) ?_
  simp (disch := first | omega | (simp only [List.length_append, List.length_cons, List.length_nil]; omega)) only [fillD, splice0, go_sem, fill_c, ↓reduceIte, reduceCtorEq, Nat.reduceAdd, Nat.reduceSub, Nat.reducePow, Nat.reduceMul, Nat.reduceEqDiff, Nat.reduceLT, Nat.reduceLeDiff, Int.reduceToNat, Int.reduceLT, Int.reduceLE, Int.reduceEq, Int.reduceNeg, Int.reduceAdd, Int.reduceSub, Int.reduceMul]
  refine gfc_same (rsmeet_fc _ a b c d) ?_
  simp (disch := first | omega | (simp only [List.length_append, List.length_cons, List.length_nil]; omega)) only [fillD, splice0, go_sem, fill_c, ↓reduceIte, reduceCtorEq, Nat.reduceAdd, Nat.reduceSub, Nat.reducePow, Nat.reduceMul, Nat.reduceEqDiff, Nat.reduceLT, Nat.reduceLeDiff, Int.reduceToNat, Int.reduceLT, Int.reduceLE, Int.reduceEq, Int.reduceNeg, Int.reduceAdd, Int.reduceSub, Int.reduceMul]
  refine xfc_same (L08.live08 _) ?_
  simp (disch := first | omega | (simp only [List.length_append, List.length_cons, List.length_nil]; omega)) only [go_sem, fill_c, ↓reduceIte, reduceCtorEq, Nat.reduceAdd, Nat.reduceSub, Nat.reducePow, Nat.reduceMul, Nat.reduceEqDiff, Nat.reduceLT, Nat.reduceLeDiff, Int.reduceToNat, Int.reduceLT, Int.reduceLE, Int.reduceEq, Int.reduceNeg, Int.reduceAdd, Int.reduceSub, Int.reduceMul]
  refine xfc_same (scheck_fc _ a b) ?_
  simp (disch := first | omega | (simp only [List.length_append, List.length_cons, List.length_nil]; omega)) only [go_sem, fill_c, ↓reduceIte, reduceCtorEq, Nat.reduceAdd, Nat.reduceSub, Nat.reducePow, Nat.reduceMul, Nat.reduceEqDiff, Nat.reduceLT, Nat.reduceLeDiff, Int.reduceToNat, Int.reduceLT, Int.reduceLE, Int.reduceEq, Int.reduceNeg, Int.reduceAdd, Int.reduceSub, Int.reduceMul]
  refine xfc_same (rscheck_fc _ a b) ?_
  simp (disch := first | omega | (simp only [List.length_append, List.length_cons, List.length_nil]; omega)) only [go_sem, fill_c, ↓reduceIte, reduceCtorEq, Nat.reduceAdd, Nat.reduceSub, Nat.reducePow, Nat.reduceMul, Nat.reduceEqDiff, Nat.reduceLT, Nat.reduceLeDiff, Int.reduceToNat, Int.reduceLT, Int.reduceLE, Int.reduceEq, Int.reduceNeg, Int.reduceAdd, Int.reduceSub, Int.reduceMul]
  refine xfc_same (shas_fc _ a b n) ?_
  simp (disch := first | omega | (simp only [List.length_append, List.length_cons, List.length_nil]; omega)) only [go_sem, fill_c, ↓reduceIte, reduceCtorEq, Nat.reduceAdd, Nat.reduceSub, Nat.reducePow, Nat.reduceMul, Nat.reduceEqDiff, Nat.reduceLT, Nat.reduceLeDiff, Int.reduceToNat, Int.reduceLT, Int.reduceLE, Int.reduceEq, Int.reduceNeg, Int.reduceAdd, Int.reduceSub, Int.reduceMul]
  refine xfc_same (rshas_fc _ a b n) ?_
  simp (disch := first | omega | (simp only [List.length_append, List.length_cons, List.length_nil]; omega)) only [bool_same, go_sem, fill_c, ↓reduceIte, reduceCtorEq, Nat.reduceAdd, Nat.reduceSub, Nat.reducePow, Nat.reduceMul, Nat.reduceEqDiff, Nat.reduceLT, Nat.reduceLeDiff, Int.reduceToNat, Int.reduceLT, Int.reduceLE, Int.reduceEq, Int.reduceNeg, Int.reduceAdd, Int.reduceSub, Int.reduceMul]
  exact FinOk.drop (.inl rfl) (by simp [underL, underD]) ⟨rfl, rfl⟩
/-- Two numbers as an argument. -/
theorem two_enc {x : (Sh.pair (.int .i64) (.pair (.int .i64) .unit)).T} {cs : List D} (en : (Sh.pair (.int .i64) (.pair (.int .i64) .unit)).Enc x cs) : ∃ a b : Int, cs = [.int .i64 a, .int .i64 b] := by
  obtain ⟨c1, r1, e1, ⟨c2, r2, e2, e3, rfl⟩, rfl⟩ := en
  simp only [Sh.Enc] at e1 e2 e3
  subst e1; subst e2; subst e3
  exact ⟨_, _, rfl⟩
theorem shas_row (h : Heap) (x0 : (Sh.pair (.int .i64) (.pair (.int .i64) .unit)).T) (ok0 : (Sh.pair (.int .i64) (.pair (.int .i64) .unit)).ok x0) (x1 : (Sh.pair (.int .i64) (.pair (.int .i64) .unit)).T) (ok1 : (Sh.pair (.int .i64) (.pair (.int .i64) .unit)).ok x1) (x2 : (Sh.int .i64).T) (ok2 : (Sh.int .i64).ok x2)
    (hv : (Sh.pair (.int .i64) (.pair (.int .i64) .unit)).vol x0 + (Sh.pair (.int .i64) (.pair (.int .i64) .unit)).vol x1 + (Sh.int .i64).vol x2 ≤ 1048576)
    (D0 : D) (en0 : (Sh.pair (.int .i64) (.pair (.int .i64) .unit)).EncV x0 D0) (D1 : D) (en1 : (Sh.pair (.int .i64) (.pair (.int .i64) .unit)).EncV x1 D1) (D2 : D) (en2 : (Sh.int .i64).EncV x2 D2) : FC Try.prog 3 [D0, D1, D2] h fun d h' => d = .bool true ∧ h' = h := by
  obtain ⟨c1, h1, rfl⟩ := en0
  obtain ⟨a, b, rfl⟩ := two_enc h1
  obtain ⟨c2, h2, rfl⟩ := en1
  obtain ⟨c, d, rfl⟩ := two_enc h2
  simp only [Sh.EncV] at en2
  subst en2
  exact shas_law h a b c d x2
end Go.Proofs
