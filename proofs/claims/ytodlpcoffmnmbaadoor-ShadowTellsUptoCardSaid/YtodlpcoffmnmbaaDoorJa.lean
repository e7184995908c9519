/-
  Own work. The walks of prefix.All, rule.Any, shadow.right, wider, Covers, and of a meeting's address, port, number.
-/
import Derived.Test.YtodlpcoffmnmbaaDoorRa
import Derived.Test.YtodlpcoffmnmbaaDoorB1
namespace Go.Proofs
open Go Go.YtodlpcoffmnmbaaDoor
set_option linter.unusedVariables false
set_option linter.unusedSimpArgs false
set_option maxRecDepth 10000

/-! ### slices.IndexFunc[[]weighbridge/api.Rule,weighbridge/api.Rule], params 2 -/
def c47r0 : List AStm := [.op (some 4) none (.mv (.c (.int .i64 0)))]
def c47r1 : List AStm := [.op (some 6) none (.mv (.t 0)),
    .op (some 7) none (.len false (.t 6)),
    .op (some 8) none (.mv (.c (.int .i64 0)))]
def c47r2 : List AStm := [.op (some 9) none (.bin .lss (.t 8) (.t 7))]
def c47r3 : List AStm := [.op (some 10) none (.mv (.t 8)),
    .op (some 5) none (.mv (.t 10))]
def c47r4 : List AStm := [.op (some 11) none (.mv (.t 1)),
    .op (some 12) none (.mv (.t 0)),
    .op (some 13) none (.mv (.t 5)),
    .op (some 14) none (.ixs 43 (.t 12) (.t 13)),
    .op (some 15) none (.load (some 43) (.t 14)),
    .call (some 16) none (.t 11) [(.t 15)]]
def c47r5 : List AStm := [.op (some 17) none (.mv (.t 5)),
    .op (some 4) none (.mv (.t 17))]
def c47r6 : List AStm := [.op (some 18) none (.bin .add (.t 8) (.c (.int .i64 1))),
    .op (some 8) none (.mv (.t 18))]
def c47l7 : AC := .seq (.reg c47r2) (.seq (.cond (.t 9) (.skip) (.exit 0)) (.seq (.block 1 (.seq (.reg c47r3) (.seq (.reg c47r4) (.cond (.t 16) (.seq (.reg c47r5) (.ret)) (.skip))))) (.reg c47r6)))
def c47r8 : List AStm := [.op (some 4) none (.mv (.c (.int .i64 (-1))))]
def c47 : CF := ⟨.seq (.reg c47r0) (.seq (.seq (.reg c47r1) (.block 0 (.loop c47l7))) (.seq (.reg c47r8) (.ret))), [.tmp 4], 19⟩
theorem cf47 : cfun Tryd.prog 47 = some c47 := by kernel_rfl

/-! ### slices.ContainsFunc[[]weighbridge/api.Rule,weighbridge/api.Rule], params 2 -/
def c33r0 : List AStm := [.op (some 4) none (.mv (.c (.bool false)))]
def c33r1 : List AStm := [.op (some 5) none (.mv (.t 0)),
    .op (some 6) none (.mv (.t 1)),
    .call (some 7) none (.c (.fn (.func 47) [] [])) [(.t 5), (.t 6)],
    .op (some 8) none (.bin .geq (.t 7) (.c (.int .i64 0))),
    .op (some 4) none (.mv (.t 8))]
def c33 : CF := ⟨.seq (.reg c33r0) (.seq (.reg c33r1) (.ret)), [.tmp 4], 9⟩
theorem cf33 : cfun Tryd.prog 33 = some c33 := by kernel_rfl

/-! ### weighbridge/shadow.right$1, params 1 -/
def c34r0 : List AStm := [.op (some 1) none (.box (.t 0)),
    .op (some 2) none (.mv (.c (.bool false)))]
def c34r1 : List AStm := [.op (some 3) none (.load (some 43) (.t 1)),
    .call (some 4) none (.c (.fn (.func 35) [] [])) [(.t 3)],
    .op (some 5) none (.bin .neq (.t 4) (.c (.int .i64 0))),
    .op (some 2) none (.mv (.t 5))]
def c34 : CF := ⟨.seq (.reg c34r0) (.seq (.reg c34r1) (.ret)), [.tmp 2], 6⟩
theorem cf34 : cfun Tryd.prog 34 = some c34 := by kernel_rfl

/-! ### weighbridge/shadow.right, params 1 -/
def c12r0 : List AStm := [.op (some 2) none (.mv (.c (.bool false)))]
def c12r1 : List AStm := [.op (some 3) none (.mv (.t 0)),
    .call (some 4) none (.c (.fn (.func 33) [] [])) [(.t 3), (.c (.fn (.func 34) [] []))],
    .op (some 5) none (.un .not (.t 4)),
    .op (some 2) none (.mv (.t 5))]
def c12 : CF := ⟨.seq (.reg c12r0) (.seq (.reg c12r1) (.ret)), [.tmp 2], 6⟩
theorem cf12 : cfun Tryd.prog 12 = some c12 := by kernel_rfl

/-! ### weighbridge/shadow.wider, params 2 -/
def c26r0 : List AStm := [.op (some 2) none (.box (.t 0)),
    .op (some 3) none (.box (.t 1)),
    .op (some 4) none (.mv (.c (.bool false)))]
def c26r1 : List AStm := []
def c26r2 : List AStm := [.op (some 5) none (.load (some 2) (.t 2)),
    .callG (some 6) none (.c (.fn (.func 29) [] [])) [],
    .op (some 7) none (.eqa false [.ki, .ki] (.t 5) (.t 6)),
    .op (some 8) none (.mv (.t 7)),
    .op (some 9) (some (8, false)) (.load (some 2) (.t 3)),
    .callG (some 10) (some (8, false)) (.c (.fn (.func 29) [] [])) [],
    .op (some 11) (some (8, false)) (.eqa true [.ki, .ki] (.t 9) (.t 10)),
    .op (some 12) (some (8, false)) (.mv (.t 11)),
    .op (some 13) (some (12, true)) (.faddr 0 (.t 2)),
    .op (some 14) (some (12, true)) (.load none (.t 13)),
    .op (some 15) (some (12, true)) (.faddr 0 (.t 3)),
    .op (some 16) (some (12, true)) (.load none (.t 15)),
    .op (some 17) (some (12, true)) (.bin .leq (.t 14) (.t 16)),
    .op (some 18) (some (8, false)) (.pick (.t 12) (.t 17) (.c (.bool false))),
    .op (some 19) (some (8, false)) (.mv (.t 18)),
    .op (some 20) (some (19, true)) (.faddr 1 (.t 2)),
    .op (some 21) (some (19, true)) (.load none (.t 20)),
    .op (some 22) (some (19, true)) (.faddr 1 (.t 3)),
    .op (some 23) (some (19, true)) (.load none (.t 22)),
    .op (some 24) (some (19, true)) (.bin .geq (.t 21) (.t 23)),
    .op (some 25) (some (8, false)) (.pick (.t 19) (.t 24) (.c (.bool false))),
    .op (some 26) none (.pick (.t 8) (.c (.bool true)) (.t 25)),
    .op (some 4) none (.mv (.t 26))]
def c26 : CF := ⟨.seq (.reg c26r0) (.seq (.dreg c26r1 c26r2) (.ret)), [.tmp 4], 27⟩
theorem cf26 : cfun Tryd.prog 26 = some c26 := by kernel_rfl

/-! ### weighbridge/shadow.Covers$1, params 2 -/
def c25r0 : List AStm := [.op (some 4) none (.mv (.c (.bool false)))]
def c25r1 : List AStm := [.op (some 5) none (.mv (.t 0)),
    .op (some 6) none (.bin .eql (.t 5) (.c (.int .i64 (-1)))),
    .op (some 7) none (.mv (.t 6)),
    .op (some 8) (some (7, false)) (.mv (.t 0)),
    .op (some 9) (some (7, false)) (.mv (.t 1)),
    .op (some 10) (some (7, false)) (.bin .eql (.t 8) (.t 9)),
    .op (some 11) none (.pick (.t 7) (.c (.bool true)) (.t 10)),
    .op (some 4) none (.mv (.t 11))]
def c25 : CF := ⟨.seq (.reg c25r0) (.seq (.reg c25r1) (.ret)), [.tmp 4], 12⟩
theorem cf25 : cfun Tryd.prog 25 = some c25 := by kernel_rfl

/-! ### weighbridge/shadow.Covers, params 2 -/
def c7r0 : List AStm := [.op (some 2) none (.box (.t 0)),
    .op (some 3) none (.box (.t 1)),
    .op (some 4) none (.mv (.c (.bool false)))]
def c7r1 : List AStm := [.op (some 6) none (.load (some 43) (.t 2)),
    .op (some 7) none (.load (some 43) (.t 3)),
    .op (some 8) none (.bslice 43 [(.int .i64 0), (.int .u8 0), (.int .u8 0), (.int .u8 0), (.int .u8 0), (.int .u8 0), (.int .u8 0), (.int .u8 0), (.int .u8 0), (.int .u8 0), (.int .u8 0), (.int .u8 0), (.int .u8 0), (.int .u8 0), (.int .u8 0), (.int .u8 0), (.int .u8 0), (.int .i64 0), (.int .i64 0), (.int .u8 0), (.int .u8 0), (.int .u8 0), (.int .u8 0), (.int .u8 0), (.int .u8 0), (.int .u8 0), (.int .u8 0), (.int .u8 0), (.int .u8 0), (.int .u8 0), (.int .u8 0), (.int .u8 0), (.int .u8 0), (.int .u8 0), (.int .u8 0), (.int .i64 0), (.int .i64 0), (.int .i64 0), (.int .i64 0), (.int .i64 0), (.int .i64 0), (.int .i64 0), (.int .i64 0), (.int .i64 0), (.int .u8 0), (.int .u8 0), (.int .u8 0), (.int .u8 0), (.int .u8 0), (.int .u8 0), (.int .u8 0), (.int .u8 0), (.int .u8 0), (.int .u8 0), (.int .u8 0), (.int .u8 0), (.int .u8 0), (.int .u8 0), (.int .u8 0), (.int .u8 0), (.int .i64 0), (.int .i64 0), (.int .u8 0), (.int .u8 0), (.int .u8 0), (.int .u8 0), (.int .u8 0), (.int .u8 0), (.int .u8 0), (.int .u8 0), (.int .u8 0), (.int .u8 0), (.int .u8 0), (.int .u8 0), (.int .u8 0), (.int .u8 0), (.int .u8 0), (.int .u8 0), (.int .i64 0), (.int .i64 0), (.int .i64 0), (.int .i64 0), (.int .i64 0), (.int .i64 0), (.int .i64 0), (.int .i64 0)] 2 [(0, 43, (.t 6)), (43, 43, (.t 7))]),
    .call (some 9) none (.c (.fn (.func 12) [] [])) [(.t 8)],
    .op (some 10) none (.un .not (.t 9)),
    .op (some 11) none (.mv (.t 10)),
    .op (some 12) (some (11, false)) (.faddr 0 (.t 3)),
    .op (some 13) (some (11, false)) (.load (some 18) (.t 12)),
    .op (some 14) (some (11, false)) (.faddr 0 (.t 2)),
    .op (some 15) (some (11, false)) (.load (some 18) (.t 14)),
    .call (some 16) (some (11, false)) (.c (.fn (.func 24) [] [])) [(.t 13), (.t 15)],
    .op (some 17) (some (11, false)) (.un .not (.t 16)),
    .op (some 18) none (.pick (.t 11) (.c (.bool true)) (.t 17)),
    .op (some 19) none (.mv (.t 18)),
    .op (some 20) (some (19, false)) (.faddr 18 (.t 3)),
    .op (some 21) (some (19, false)) (.load (some 18) (.t 20)),
    .op (some 22) (some (19, false)) (.faddr 18 (.t 2)),
    .op (some 23) (some (19, false)) (.load (some 18) (.t 22)),
    .call (some 24) (some (19, false)) (.c (.fn (.func 24) [] [])) [(.t 21), (.t 23)],
    .op (some 25) (some (19, false)) (.un .not (.t 24)),
    .op (some 26) none (.pick (.t 19) (.c (.bool true)) (.t 25))]
def c7r2 : List AStm := [.op (some 4) none (.mv (.c (.bool false)))]
def c7r3 : List AStm := [.op (some 5) none (.mv (.c (.fn (.func 25) [] [])))]
def c7r4 : List AStm := [.op (some 27) none (.faddr 36 (.t 2)),
    .op (some 28) none (.load (some 2) (.t 27)),
    .op (some 29) none (.faddr 36 (.t 3)),
    .op (some 30) none (.load (some 2) (.t 29)),
    .call (some 31) none (.c (.fn (.func 26) [] [])) [(.t 28), (.t 30)],
    .op (some 32) none (.mv (.t 31)),
    .op (some 33) (some (32, true)) (.faddr 38 (.t 2)),
    .op (some 34) (some (32, true)) (.load (some 2) (.t 33)),
    .op (some 35) (some (32, true)) (.faddr 38 (.t 3)),
    .op (some 36) (some (32, true)) (.load (some 2) (.t 35)),
    .call (some 37) (some (32, true)) (.c (.fn (.func 26) [] [])) [(.t 34), (.t 36)],
    .op (some 38) none (.pick (.t 32) (.t 37) (.c (.bool false))),
    .op (some 39) none (.mv (.t 38)),
    .op (some 40) (some (39, true)) (.mv (.t 5)),
    .op (some 41) (some (39, true)) (.faddr 40 (.t 2)),
    .op (some 42) (some (39, true)) (.load none (.t 41)),
    .op (some 43) (some (39, true)) (.faddr 40 (.t 3)),
    .op (some 44) (some (39, true)) (.load none (.t 43)),
    .call (some 45) (some (39, true)) (.t 40) [(.t 42), (.t 44)],
    .op (some 46) none (.pick (.t 39) (.t 45) (.c (.bool false))),
    .op (some 47) none (.mv (.t 46)),
    .op (some 48) (some (47, true)) (.mv (.t 5)),
    .op (some 49) (some (47, true)) (.faddr 41 (.t 2)),
    .op (some 50) (some (47, true)) (.load none (.t 49)),
    .op (some 51) (some (47, true)) (.faddr 41 (.t 3)),
    .op (some 52) (some (47, true)) (.load none (.t 51)),
    .call (some 53) (some (47, true)) (.t 48) [(.t 50), (.t 52)],
    .op (some 54) none (.pick (.t 47) (.t 53) (.c (.bool false))),
    .op (some 4) none (.mv (.t 54))]
def c7 : CF := ⟨.seq (.reg c7r0) (.seq (.seq (.reg c7r1) (.cond (.t 26) (.seq (.reg c7r2) (.ret)) (.skip))) (.seq (.reg c7r3) (.seq (.reg c7r4) (.ret)))), [.tmp 4], 55⟩
theorem cf7 : cfun Tryd.prog 7 = some c7 := by kernel_rfl

/-! ### (*weighbridge/shadow.meeting).address, params 3 -/
def c13r0 : List AStm := [.op (some 4) none (.box (.t 1)),
    .op (some 5) none (.box (.t 2)),
    .op (some 6) none (.alloc (List.replicate 16 (.int .u8 0)))]
def c13r1 : List AStm := [.op (some 7) none (.mv (.t 0)),
    .op (some 8) none (.mv (.t 0)),
    .op (some 9) none (.nilchk (.t 8)),
    .op (some 10) none (.faddr 0 (.t 9)),
    .op (some 11) none (.load none (.t 10)),
    .op (some 12) none (.mv (.t 11)),
    .op (some 13) (some (12, false)) (.load (some 18) (.t 4)),
    .op (some 14) (some (12, false)) (.load (some 18) (.t 5)),
    .call (some 15) (some (12, false)) (.c (.fn (.func 36) [] [])) [(.t 13), (.t 14)],
    .op (some 16) (some (12, false)) (.un .not (.t 15)),
    .op (some 17) none (.pick (.t 12) (.c (.bool true)) (.t 16)),
    .op (some 18) none (.nilchk (.t 7)),
    .op (some 19) none (.faddr 0 (.t 18)),
    .op none none (.store 1 (.t 19) (.t 17))]
def c13r2 : List AStm := [.op (some 20) none (.faddr 17 (.t 4)),
    .op (some 21) none (.load none (.t 20)),
    .op (some 22) none (.faddr 17 (.t 5)),
    .op (some 23) none (.load none (.t 22)),
    .op (some 24) none (.bin .gtr (.t 21) (.t 23))]
def c13r3 : List AStm := [.op (some 25) none (.faddr 1 (.t 4)),
    .op (some 26) none (.load (some 16) (.t 25)),
    .op none none (.store 16 (.t 6) (.t 26))]
def c13r4 : List AStm := [.op (some 27) none (.faddr 1 (.t 5)),
    .op (some 28) none (.load (some 16) (.t 27)),
    .op none none (.store 16 (.t 6) (.t 28))]
def c13 : CF := ⟨.seq (.reg c13r0) (.seq (.reg c13r1) (.seq (.seq (.reg c13r2) (.cond (.t 24) (.seq (.reg c13r3) (.ret)) (.skip))) (.seq (.reg c13r4) (.ret)))), [.cell 6 (some 16)], 29⟩
theorem cf13 : cfun Tryd.prog 13 = some c13 := by kernel_rfl

/-! ### (*weighbridge/shadow.meeting).port, params 3 -/
def c14r0 : List AStm := [.op (some 4) none (.box (.t 1)),
    .op (some 5) none (.box (.t 2)),
    .op (some 6) none (.mv (.c (.int .i64 0)))]
def c14r1 : List AStm := [.op (some 10) none (.load (some 2) (.t 4)),
    .op (some 11) none (.load (some 2) (.t 5)),
    .call (some 12) none (.c (.fn (.func 37) [] [])) [(.t 10), (.t 11)],
    .op (some 9) none (.mv (.t 12)),
    .op (some 13) none (.ext (.t 9) 0),
    .op (some 14) none (.ext (.t 9) 1),
    .op (some 7) none (.alloc [(.int .i64 0), (.int .i64 0)]),
    .op none none (.store 2 (.t 7) (.t 13)),
    .op (some 8) none (.mv (.t 14))]
def c14r2 : List AStm := [.op (some 15) none (.mv (.t 0)),
    .op (some 16) none (.mv (.t 0)),
    .op (some 17) none (.nilchk (.t 16)),
    .op (some 18) none (.faddr 0 (.t 17)),
    .op (some 19) none (.load none (.t 18)),
    .op (some 20) none (.mv (.t 19)),
    .op (some 21) (some (20, false)) (.mv (.t 8)),
    .op (some 22) (some (20, false)) (.un .not (.t 21)),
    .op (some 23) none (.pick (.t 20) (.c (.bool true)) (.t 22)),
    .op (some 24) none (.nilchk (.t 15)),
    .op (some 25) none (.faddr 0 (.t 24)),
    .op none none (.store 1 (.t 25) (.t 23))]
def c14r3 : List AStm := [.op (some 26) none (.faddr 0 (.t 7)),
    .op (some 27) none (.load none (.t 26)),
    .op (some 6) none (.mv (.t 27))]
def c14 : CF := ⟨.seq (.reg c14r0) (.seq (.reg c14r1) (.seq (.reg c14r2) (.seq (.reg c14r3) (.ret)))), [.tmp 6], 28⟩
theorem cf14 : cfun Tryd.prog 14 = some c14 := by kernel_rfl

/-! ### (*weighbridge/shadow.meeting).number, params 4 -/
def c15r0 : List AStm := [.op (some 8) none (.mv (.c (.int .i64 0)))]
def c15r1 : List AStm := [.op (some 10) none (.mv (.t 1)),
    .op (some 11) none (.bin .eql (.t 10) (.c (.int .i64 (-1)))),
    .op (some 12) none (.mv (.t 11)),
    .op (some 13) (some (12, true)) (.mv (.t 2)),
    .op (some 14) (some (12, true)) (.bin .eql (.t 13) (.c (.int .i64 (-1)))),
    .op (some 15) none (.pick (.t 12) (.t 14) (.c (.bool false))),
    .op (some 9) none (.mv (.t 15))]
def c15r2 : List AStm := [.op (some 16) none (.mv (.t 3)),
    .op (some 8) none (.mv (.t 16))]
def c15r3 : List AStm := [.op (some 18) none (.mv (.t 1)),
    .op (some 19) none (.bin .eql (.t 18) (.c (.int .i64 (-1)))),
    .op (some 17) none (.mv (.t 19))]
def c15r4 : List AStm := [.op (some 20) none (.mv (.t 2)),
    .op (some 8) none (.mv (.t 20))]
def c15r5 : List AStm := [.op (some 22) none (.mv (.t 2)),
    .op (some 23) none (.bin .neq (.t 22) (.c (.int .i64 (-1)))),
    .op (some 24) none (.mv (.t 23)),
    .op (some 25) (some (24, true)) (.mv (.t 1)),
    .op (some 26) (some (24, true)) (.mv (.t 2)),
    .op (some 27) (some (24, true)) (.bin .neq (.t 25) (.t 26)),
    .op (some 28) none (.pick (.t 24) (.t 27) (.c (.bool false))),
    .op (some 21) none (.mv (.t 28))]
def c15r6 : List AStm := [.op (some 29) none (.mv (.t 0)),
    .op (some 30) none (.nilchk (.t 29)),
    .op (some 31) none (.faddr 0 (.t 30)),
    .op none none (.store 1 (.t 31) (.c (.bool true)))]
def c15r7 : List AStm := [.op (some 32) none (.mv (.t 1)),
    .op (some 8) none (.mv (.t 32))]
def c15 : CF := ⟨.seq (.reg c15r0) (.seq (.block 0 (.seq (.reg c15r1) (.cond (.t 9) (.seq (.reg c15r2) (.ret)) (.seq (.reg c15r3) (.cond (.t 17) (.seq (.reg c15r4) (.ret)) (.seq (.reg c15r5) (.cond (.t 21) (.reg c15r6) (.skip)))))))) (.seq (.reg c15r7) (.ret))), [.tmp 8], 33⟩
theorem cf15 : cfun Tryd.prog 15 = some c15 := by kernel_rfl



theorem pall_fc (h : Heap) (v : Int) : FC Tryd.prog 39 [.int .i64 v] h fun d h' => d = .agg (pc v (zeros 16) 0) ∧ h' = h := by
  refine FC.goes cf39 ?_; simp only [c39]; simp only [List.length_cons, List.length_nil, Nat.reduceAdd, Nat.reduceSub, List.replicate_succ, List.replicate_zero, List.cons_append, List.nil_append]
  simp (disch := first | omega | (simp only [List.length_append, List.length_cons, List.length_nil]; omega)) only [c39r0, c39r1, splice0, go_sem, fill_c, ↓reduceIte, reduceCtorEq, Nat.reduceAdd, Nat.reduceSub, Nat.reducePow, Nat.reduceMul, Nat.reduceEqDiff, Nat.reduceLT, Nat.reduceLeDiff, Int.reduceToNat, Int.reduceLT, Int.reduceLE, Int.reduceEq, Int.reduceNeg, Int.reduceAdd, Int.reduceSub, Int.reduceMul]
  exact FinOk.drop (.inl rfl) (by simp [underL, underD]) ⟨rfl, rfl⟩
/-- The rule that asks nothing but the version. -/
def ruAny (v c : Int) : Ru := ⟨v, zeros 16, 0, v, zeros 16, 0, 0, 65535, 0, 65535, -1, -1, c⟩
theorem ruAny_ok (v c : Int) : (ruAny v c).Ok := ⟨zeros_len 16, zeros_len 16⟩
theorem any_fc (h : Heap) (v c : Int) : FC Tryd.prog 20 [.int .i64 v, .int .i64 c] h fun d h' => d = .agg (ru (ruAny v c)) ∧ h' = h := by
  have zz : pc v (zeros 16) 0 = [.int .i64 v, .int .u8 0, .int .u8 0, .int .u8 0, .int .u8 0, .int .u8 0, .int .u8 0, .int .u8 0, .int .u8 0, .int .u8 0, .int .u8 0, .int .u8 0, .int .u8 0, .int .u8 0, .int .u8 0, .int .u8 0, .int .u8 0, .int .i64 0] := rfl
  refine FC.goes cf20 ?_; simp only [c20]; simp only [List.length_cons, List.length_nil, Nat.reduceAdd, Nat.reduceSub, List.replicate_succ, List.replicate_zero, List.cons_append, List.nil_append]
  simp (disch := first | omega | (simp only [List.length_append, List.length_cons, List.length_nil]; omega)) only [c20r0, c20r1, go_sem, fill_c, ↓reduceIte, reduceCtorEq, Nat.reduceAdd, Nat.reduceSub, Nat.reducePow, Nat.reduceMul, Nat.reduceEqDiff, Nat.reduceLT, Nat.reduceLeDiff, Int.reduceToNat, Int.reduceLT, Int.reduceLE, Int.reduceEq, Int.reduceNeg, Int.reduceAdd, Int.reduceSub, Int.reduceMul]
  refine gfc_same (pall_fc _ v) ?_
  rw [zz]
  simp (disch := first | omega | (simp only [List.length_append, List.length_cons, List.length_nil]; omega)) only [go_sem, fill_c, ↓reduceIte, reduceCtorEq, Nat.reduceAdd, Nat.reduceSub, Nat.reducePow, Nat.reduceMul, Nat.reduceEqDiff, Nat.reduceLT, Nat.reduceLeDiff, Int.reduceToNat, Int.reduceLT, Int.reduceLE, Int.reduceEq, Int.reduceNeg, Int.reduceAdd, Int.reduceSub, Int.reduceMul]
  refine gfc_same (pall_fc _ v) ?_
  rw [zz]
  simp (disch := first | omega | (simp only [List.length_append, List.length_cons, List.length_nil]; omega)) only [go_sem, fill_c, ↓reduceIte, reduceCtorEq, Nat.reduceAdd, Nat.reduceSub, Nat.reducePow, Nat.reduceMul, Nat.reduceEqDiff, Nat.reduceLT, Nat.reduceLeDiff, Int.reduceToNat, Int.reduceLT, Int.reduceLE, Int.reduceEq, Int.reduceNeg, Int.reduceAdd, Int.reduceSub, Int.reduceMul]
  refine gfc_same (sall_fc _) ?_
  simp (disch := first | omega | (simp only [List.length_append, List.length_cons, List.length_nil]; omega)) only [go_sem, fill_c, ↓reduceIte, reduceCtorEq, Nat.reduceAdd, Nat.reduceSub, Nat.reducePow, Nat.reduceMul, Nat.reduceEqDiff, Nat.reduceLT, Nat.reduceLeDiff, Int.reduceToNat, Int.reduceLT, Int.reduceLE, Int.reduceEq, Int.reduceNeg, Int.reduceAdd, Int.reduceSub, Int.reduceMul]
  refine gfc_same (sall_fc _) ?_
  simp (disch := first | omega | (simp only [List.length_append, List.length_cons, List.length_nil]; omega)) only [go_sem, fill_c, ↓reduceIte, reduceCtorEq, Nat.reduceAdd, Nat.reduceSub, Nat.reducePow, Nat.reduceMul, Nat.reduceEqDiff, Nat.reduceLT, Nat.reduceLeDiff, Int.reduceToNat, Int.reduceLT, Int.reduceLE, Int.reduceEq, Int.reduceNeg, Int.reduceAdd, Int.reduceSub, Int.reduceMul]
  exact FinOk.drop (.inl rfl) (by simp [underL, underD]) ⟨rfl, rfl⟩

/-! ### Rules in a slice -/
theorem flat_at {sz : Nat} : ∀ {ls : List (List D)} {k : Nat} {c : List D}, (∀ x ∈ ls, x.length = sz) → ls[k]? = some c → (ls.flatten.drop (k * sz)).take sz = c
  | [], k, c, _, h => by simp at h
  | x :: ls, 0, c, hl, h => by
    simp only [List.getElem?_cons_zero, Option.some.injEq] at h
    subst h
    have := hl x (by simp)
    simp only [List.flatten_cons, Nat.zero_mul, List.drop_zero]
    rw [List.take_append_of_le_length (by omega), List.take_of_length_le (by omega)]
  | x :: ls, k + 1, c, hl, h => by
    have hx := hl x (by simp)
    simp only [List.getElem?_cons_succ] at h
    have := flat_at (fun y hy => hl y (by simp [hy])) h
    rw [List.flatten_cons, Nat.succ_mul, show k * sz + sz = sz + k * sz by omega, ← List.drop_drop, show (x ++ ls.flatten).drop sz = ls.flatten by rw [← hx]; exact List.drop_left]
    exact this
theorem sl_load {h : Heap} {sz : Nat} {d : D} {cs : List D} {n : Nat} (hd : SlOf h sz d cs n) {k : IntKind} {i : Nat} (h1 : i < n) :
    ∃ p cs', elemAddr h sz d (.int k (i : Int)) = some p ∧ ptrCells h p = some cs' ∧ sz ≤ cs'.length ∧ cs'.take sz = (cs.drop (i * sz)).take sz := by
  obtain ⟨p, cs', e1, e2, e3⟩ := hd.elem (k := k) (i := (i : Int)) (by omega) (by omega)
  have hl := hd.len
  have hm : i * sz + sz ≤ n * sz := by
    have := Nat.mul_le_mul_right sz (show i + 1 ≤ n by omega)
    rw [Nat.add_mul] at this; omega
  simp only [Int.toNat_natCast] at e3
  have e4 : cs'.take sz = (cs.drop (i * sz)).take sz := by
    apply List.ext_getElem?
    intro x
    rw [List.getElem?_take, List.getElem?_take]
    by_cases hx : x < sz
    · rw [if_pos hx, if_pos hx, e3 x hx, List.getElem?_drop]
    · rw [if_neg hx, if_neg hx]
  refine ⟨p, cs', e1, e2, ?_, e4⟩
  have e5 := congrArg List.length e4
  simp only [List.length_take, List.length_drop, hl] at e5
  omega
def rusC (rs : List Ru) : List D := (rs.map ru).flatten
theorem rus_at {rs : List Ru} (hok : ∀ r ∈ rs, r.Ok) {k : Nat} {r : Ru} (hr : rs[k]? = some r) : ((rusC rs).drop (k * 43)).take 43 = ru r := by
  refine flat_at (fun x hx => ?_) (by rw [List.getElem?_map, hr]; rfl)
  obtain ⟨y, hy, rfl⟩ := List.mem_map.1 hx
  exact ru_len (hok y hy)
/-- May all be? -/
def allOk (rs : List Ru) : Bool := rs.all fun r => decide (ruChk r = 0)
theorem right1_fc (h : Heap) (r : Ru) (ok : r.Ok) : FC Tryd.prog 34 [.agg (ru r)] h fun d h' => d = .bool (!decide (ruChk r = 0)) ∧ h' = h := by
  refine FC.goes cf34 ?_; simp only [c34]; simp only [List.length_cons, List.length_nil, Nat.reduceAdd, Nat.reduceSub, List.replicate_succ, List.replicate_zero, List.cons_append, List.nil_append]
  simp (disch := first | omega | (simp only [List.length_append, List.length_cons, List.length_nil]; omega)) only [c34r0, c34r1, ru_len, ru_one, ru_take, ok, go_sem, fill_c, ↓reduceIte, reduceCtorEq, Nat.reduceAdd, Nat.reduceSub, Nat.reducePow, Nat.reduceMul, Nat.reduceEqDiff, Nat.reduceLT, Nat.reduceLeDiff, Int.reduceToNat, Int.reduceLT, Int.reduceLE, Int.reduceEq, Int.reduceNeg, Int.reduceAdd, Int.reduceSub, Int.reduceMul]
  refine gfc_same (rcheckP_fc _ r ok) ?_
  by_cases hc : ruChk r = 0
  · have e0 : decide (ruChk r = 0) = true := decide_eq_true hc
    simp (disch := first | omega | (simp only [List.length_append, List.length_cons, List.length_nil]; omega)) only [e0, go_sem, fill_c, ↓reduceIte, reduceCtorEq, Nat.reduceAdd, Nat.reduceSub, Nat.reducePow, Nat.reduceMul, Nat.reduceEqDiff, Nat.reduceLT, Nat.reduceLeDiff, Int.reduceToNat, Int.reduceLT, Int.reduceLE, Int.reduceEq, Int.reduceNeg, Int.reduceAdd, Int.reduceSub, Int.reduceMul]
    exact FinOk.drop (.inl rfl) (by simp [underL, underD]) ⟨rfl, rfl⟩
  · simp (disch := first | omega | (simp only [List.length_append, List.length_cons, List.length_nil]; omega)) only [hc, go_sem, fill_c, ↓reduceIte, reduceCtorEq, Nat.reduceAdd, Nat.reduceSub, Nat.reducePow, Nat.reduceMul, Nat.reduceEqDiff, Nat.reduceLT, Nat.reduceLeDiff, Int.reduceToNat, Int.reduceLT, Int.reduceLE, Int.reduceEq, Int.reduceNeg, Int.reduceAdd, Int.reduceSub, Int.reduceMul]
    exact FinOk.drop (.inl rfl) (by simp [underL, underD]) ⟨rfl, rfl⟩
theorem idxfunc_fc (h : Heap) (x : D) (rs : List Ru) (hok : ∀ r ∈ rs, r.Ok) (hx : SlOf h 43 x (rusC rs) rs.length) (hlen : rs.length ≤ 1048576) :
    FC Tryd.prog 47 [x, .fn (.func 34) [] []] h fun d h' => (∃ i : Int, d = .int .i64 i ∧ decide (0 ≤ i) = !allOk rs) ∧ h' = h := by
  refine FC.goes cf47 ?_; simp only [c47]; simp only [List.length_cons, List.length_nil, Nat.reduceAdd, Nat.reduceSub, List.replicate_succ, List.replicate_zero, List.cons_append, List.nil_append]
  simp (disch := first | omega | (simp only [List.length_append, List.length_cons, List.length_nil]; omega)) only [c47r0, c47r1, c47r2, c47r3, c47r4, c47r5, c47r6, c47l7, c47r8, hx.lend, hx.sort, go_sem, fill_c, ↓reduceIte, reduceCtorEq, Nat.reduceAdd, Nat.reduceSub, Nat.reducePow, Nat.reduceMul, Nat.reduceEqDiff, Nat.reduceLT, Nat.reduceLeDiff, Int.reduceToNat, Int.reduceLT, Int.reduceLE, Int.reduceEq, Int.reduceNeg, Int.reduceAdd, Int.reduceSub, Int.reduceMul]
  refine loop_to rs.length (fun k st => allOk (rs.take k) = true ∧ ∃ (j : Nat → D), st = ⟨(x :: .fn (.func 34) [] [] :: j 2 :: j 3 :: j 4 :: j 5 :: x :: .int .i64 (rs.length : Int) :: .int .i64 (k : Int) :: j 9 :: j 10 :: j 11 :: j 12 :: j 13 :: j 14 :: j 15 :: j 16 :: j 17 :: j 18 :: []), h⟩) ⟨rfl, junk rfl⟩ ?_
  rintro k st hk ⟨hall, j, rfl⟩
  by_cases hkn : k < rs.length
  · have hkn' : (k : Int) < rs.length := by omega
    obtain ⟨r, hr⟩ : ∃ r, rs[k]? = some r := ⟨_, List.getElem?_eq_getElem hkn⟩
    have rok := hok r (List.mem_iff_getElem?.2 ⟨k, hr⟩)
    obtain ⟨p, cs, e1, e2, e3, e4⟩ := sl_load hx (k := .i64) hkn
    rw [rus_at hok hr] at e4
    simp (disch := first | omega | (simp only [List.length_append, List.length_cons, List.length_nil]; omega)) only [c47r0, c47r1, c47r2, c47r3, c47r4, c47r5, c47r6, c47l7, c47r8, hkn', e1, e2, e3, e4, go_sem, fill_c, ↓reduceIte, reduceCtorEq, Nat.reduceAdd, Nat.reduceSub, Nat.reducePow, Nat.reduceMul, Nat.reduceEqDiff, Nat.reduceLT, Nat.reduceLeDiff, Int.reduceToNat, Int.reduceLT, Int.reduceLE, Int.reduceEq, Int.reduceNeg, Int.reduceAdd, Int.reduceSub, Int.reduceMul]
    refine gfc_same (right1_fc _ r rok) ?_
    by_cases hc : ruChk r = 0
    · have e0 : decide (ruChk r = 0) = true := decide_eq_true hc
      simp (disch := first | omega | (simp only [List.length_append, List.length_cons, List.length_nil]; omega)) only [e0, go_sem, fill_c, ↓reduceIte, reduceCtorEq, Nat.reduceAdd, Nat.reduceSub, Nat.reducePow, Nat.reduceMul, Nat.reduceEqDiff, Nat.reduceLT, Nat.reduceLeDiff, Int.reduceToNat, Int.reduceLT, Int.reduceLE, Int.reduceEq, Int.reduceNeg, Int.reduceAdd, Int.reduceSub, Int.reduceMul]
      refine ⟨hkn, ?_, ?_⟩
      · rw [List.take_add_one, hr, Option.toList_some, allOk, List.all_append]
        rw [allOk] at hall
        rw [hall]; simp [hc]
      · exact junk rfl
    · have e0 : decide (ruChk r = 0) = false := decide_eq_false hc
      simp (disch := first | omega | (simp only [List.length_append, List.length_cons, List.length_nil]; omega)) only [e0, go_sem, fill_c, ↓reduceIte, reduceCtorEq, Nat.reduceAdd, Nat.reduceSub, Nat.reducePow, Nat.reduceMul, Nat.reduceEqDiff, Nat.reduceLT, Nat.reduceLeDiff, Int.reduceToNat, Int.reduceLT, Int.reduceLE, Int.reduceEq, Int.reduceNeg, Int.reduceAdd, Int.reduceSub, Int.reduceMul]
      refine FinOk.all ⟨⟨_, rfl, ?_⟩, rfl⟩
      have : allOk rs = false := by
        rw [Bool.eq_false_iff]
        intro ha
        rw [allOk, List.all_eq_true] at ha
        exact hc (by simpa using ha r (List.mem_iff_getElem?.2 ⟨k, hr⟩))
      rw [this]; simp
  · have : k = rs.length := by omega
    subst this
    simp (disch := first | omega | (simp only [List.length_append, List.length_cons, List.length_nil]; omega)) only [c47r0, c47r1, c47r2, c47r3, c47r4, c47r5, c47r6, c47l7, c47r8, Int.lt_irrefl, go_sem, fill_c, ↓reduceIte, reduceCtorEq, Nat.reduceAdd, Nat.reduceSub, Nat.reducePow, Nat.reduceMul, Nat.reduceEqDiff, Nat.reduceLT, Nat.reduceLeDiff, Int.reduceToNat, Int.reduceLT, Int.reduceLE, Int.reduceEq, Int.reduceNeg, Int.reduceAdd, Int.reduceSub, Int.reduceMul]
    refine FinOk.all ⟨⟨_, rfl, ?_⟩, rfl⟩
    rw [List.take_length] at hall
    rw [hall]; rfl
theorem right_ok_fc (h : Heap) (x : D) (rs : List Ru) (hok : ∀ r ∈ rs, r.Ok) (hx : SlOf h 43 x (rusC rs) rs.length) (hlen : rs.length ≤ 1048576) :
    FC Tryd.prog 12 [x] h fun d h' => d = .bool (allOk rs) ∧ h' = h := by
  have contains : ∀ h, SlOf h 43 x (rusC rs) rs.length → FC Tryd.prog 33 [x, .fn (.func 34) [] []] h fun d h' => d = .bool (!allOk rs) ∧ h' = h := by
    intro h hx
    refine FC.goes cf33 ?_; simp only [c33]; simp only [List.length_cons, List.length_nil, Nat.reduceAdd, Nat.reduceSub, List.replicate_succ, List.replicate_zero, List.cons_append, List.nil_append]
    simp (disch := first | omega | (simp only [List.length_append, List.length_cons, List.length_nil]; omega)) only [c33r0, c33r1, go_sem, fill_c, ↓reduceIte, reduceCtorEq, Nat.reduceAdd, Nat.reduceSub, Nat.reducePow, Nat.reduceMul, Nat.reduceEqDiff, Nat.reduceLT, Nat.reduceLeDiff, Int.reduceToNat, Int.reduceLT, Int.reduceLE, Int.reduceEq, Int.reduceNeg, Int.reduceAdd, Int.reduceSub, Int.reduceMul]
    refine gfc_of (idxfunc_fc _ x rs hok hx hlen) ?_
    rintro d h' ⟨⟨i, rfl, hi⟩, rfl⟩
    simp (disch := first | omega | (simp only [List.length_append, List.length_cons, List.length_nil]; omega)) only [go_sem, fill_c, ↓reduceIte, reduceCtorEq, Nat.reduceAdd, Nat.reduceSub, Nat.reducePow, Nat.reduceMul, Nat.reduceEqDiff, Nat.reduceLT, Nat.reduceLeDiff, Int.reduceToNat, Int.reduceLT, Int.reduceLE, Int.reduceEq, Int.reduceNeg, Int.reduceAdd, Int.reduceSub, Int.reduceMul]
    exact FinOk.all ⟨by rw [hi]; rfl, rfl⟩
  refine FC.goes cf12 ?_; simp only [c12]; simp only [List.length_cons, List.length_nil, Nat.reduceAdd, Nat.reduceSub, List.replicate_succ, List.replicate_zero, List.cons_append, List.nil_append]
  simp (disch := first | omega | (simp only [List.length_append, List.length_cons, List.length_nil]; omega)) only [c12r0, c12r1, go_sem, fill_c, ↓reduceIte, reduceCtorEq, Nat.reduceAdd, Nat.reduceSub, Nat.reducePow, Nat.reduceMul, Nat.reduceEqDiff, Nat.reduceLT, Nat.reduceLeDiff, Int.reduceToNat, Int.reduceLT, Int.reduceLE, Int.reduceEq, Int.reduceNeg, Int.reduceAdd, Int.reduceSub, Int.reduceMul]
  refine gfc_same (contains _ hx) ?_
  simp (disch := first | omega | (simp only [List.length_append, List.length_cons, List.length_nil]; omega)) only [Bool.not_not, go_sem, fill_c, ↓reduceIte, reduceCtorEq, Nat.reduceAdd, Nat.reduceSub, Nat.reducePow, Nat.reduceMul, Nat.reduceEqDiff, Nat.reduceLT, Nat.reduceLeDiff, Int.reduceToNat, Int.reduceLT, Int.reduceLE, Int.reduceEq, Int.reduceNeg, Int.reduceAdd, Int.reduceSub, Int.reduceMul]
  exact FinOk.all ⟨rfl, rfl⟩
/-- What two rules make in a slice. -/
theorem ru_fill1 {r : Ru} (ok : r.Ok) {z : List D} (hz : z.length = 43) : fillD z [(0, 43, .agg (ru r))] = some (ru r) := by
  rw [fillD, if_pos ⟨by simp only [List.all_cons, List.all_nil, Bool.and_true, laid]; exact (ru_one (by assumption)), by simpa [vcells] using ru_len ok, by omega⟩]
  rw [splice_eq _ _ _ (by simp only [vcells, ru_len ok]; omega)]
  simp only [vcells, ru_len ok, List.take_zero, List.nil_append, Nat.zero_add]
  rw [List.drop_of_length_le (by omega), List.append_nil]; rfl
theorem ru_fill2 {a b : Ru} (ha : a.Ok) (hb : b.Ok) {z : List D} (hz : z.length = 86) : fillD z [(0, 43, .agg (ru a)), (43, 43, .agg (ru b))] = some (ru a ++ ru b) := by
  have la := ru_len ha
  have lb := ru_len hb
  rw [fillD, if_pos ⟨by simp only [List.all_cons, List.all_nil, Bool.and_true, laid]; exact (ru_one (by assumption)), by simpa [vcells] using la, by omega⟩]
  have e1 : splice z 0 (vcells (.agg (ru a))) = ru a ++ z.drop 43 := by
    rw [splice_eq _ _ _ (by simp only [vcells]; omega)]
    simp only [vcells, la, List.take_zero, List.nil_append, Nat.zero_add]
  rw [e1, fillD, if_pos ⟨by simp only [List.all_cons, List.all_nil, Bool.and_true, laid]; exact (ru_one (by assumption)), by simpa [vcells] using lb, by rw [List.length_append, List.length_drop]; omega⟩]
  rw [splice_eq _ _ _ (by simp only [vcells, List.length_append, List.length_drop]; omega)]
  simp only [vcells, lb]
  rw [List.take_append_of_le_length (by omega), List.take_of_length_le (by omega), List.drop_of_length_le (by simp only [List.length_append, List.length_drop]; omega), List.append_nil]; rfl
theorem rus_one {h : Heap} {a : Ru} (ha : a.Ok) {r : Nat} (hb : h[r]? = some (.grow 43 (ru a) 1)) : SlOf h 43 (.own r 1) (rusC [a]) [a].length := by
  have : rusC [a] = ru a := by simp [rusC]
  rw [this]; exact own_of hb (by rw [ru_len ha])
theorem rus_two {h : Heap} {a b : Ru} (ha : a.Ok) (hb : b.Ok) {r : Nat} (hr : h[r]? = some (.grow 43 (ru a ++ ru b) 2)) : SlOf h 43 (.own r 2) (rusC [a, b]) [a, b].length := by
  have : rusC [a, b] = ru a ++ ru b := by simp [rusC]
  rw [this]; exact own_of hr (by rw [List.length_append, ru_len ha, ru_len hb])
/-- Both may be. -/
def bothOk (a b : Ru) : Bool := decide (ruChk a = 0) && decide (ruChk b = 0)
theorem allOk_two (a b : Ru) : allOk [a, b] = bothOk a b := by simp [allOk, bothOk]
theorem allOk_one (a : Ru) : allOk [a] = decide (ruChk a = 0) := by simp [allOk]

/-- Does a span ask no more than another one? -/
def widerF (alo ahi blo bhi : Int) : Bool := (alo == 0 && ahi == 65535) || (!(blo == 0 && bhi == 65535) && (decide (alo ≤ blo) && decide (bhi ≤ ahi)))
theorem wider_fc (h : Heap) (a b c d : Int) : FC Tryd.prog 26 [.agg [.int .i64 a, .int .i64 b], .agg [.int .i64 c, .int .i64 d]] h fun r h' => r = .bool (widerF a b c d) ∧ h' = h := by
  refine FC.goes cf26 ?_; simp only [c26]; simp only [List.length_cons, List.length_nil, Nat.reduceAdd, Nat.reduceSub, List.replicate_succ, List.replicate_zero, List.cons_append, List.nil_append]
  simp (disch := first | omega | (simp only [List.length_append, List.length_cons, List.length_nil]; omega)) only [c26r0, c26r1, c26r2, go_sem, fill_c, ↓reduceIte, reduceCtorEq, Nat.reduceAdd, Nat.reduceSub, Nat.reducePow, Nat.reduceMul, Nat.reduceEqDiff, Nat.reduceLT, Nat.reduceLeDiff, Int.reduceToNat, Int.reduceLT, Int.reduceLE, Int.reduceEq, Int.reduceNeg, Int.reduceAdd, Int.reduceSub, Int.reduceMul]
  refine xfc_same (sall_fc _) ?_
  cases hA : (a == 0 && b == 65535) with
  | true =>
    have e : widerF a b c d = true := by rw [widerF, hA]; rfl
    rw [e]
    simp (disch := first | omega | (simp only [List.length_append, List.length_cons, List.length_nil]; omega)) only [hA, go_sem, fill_c, ↓reduceIte, reduceCtorEq, Nat.reduceAdd, Nat.reduceSub, Nat.reducePow, Nat.reduceMul, Nat.reduceEqDiff, Nat.reduceLT, Nat.reduceLeDiff, Int.reduceToNat, Int.reduceLT, Int.reduceLE, Int.reduceEq, Int.reduceNeg, Int.reduceAdd, Int.reduceSub, Int.reduceMul]
    exact FinOk.drop (.inl rfl) (by simp [underL, underD]) ⟨rfl, rfl⟩
  | false =>
    have e : widerF a b c d = (!(c == 0 && d == 65535) && (decide (a ≤ c) && decide (d ≤ b))) := by rw [widerF, hA]; rfl
    rw [e]
    simp (disch := first | omega | (simp only [List.length_append, List.length_cons, List.length_nil]; omega)) only [hA, go_sem, fill_c, ↓reduceIte, reduceCtorEq, Nat.reduceAdd, Nat.reduceSub, Nat.reducePow, Nat.reduceMul, Nat.reduceEqDiff, Nat.reduceLT, Nat.reduceLeDiff, Int.reduceToNat, Int.reduceLT, Int.reduceLE, Int.reduceEq, Int.reduceNeg, Int.reduceAdd, Int.reduceSub, Int.reduceMul]
    refine xfc_same (sall_fc _) ?_
    cases hB : (c == 0 && d == 65535) with
    | true =>
      simp (disch := first | omega | (simp only [List.length_append, List.length_cons, List.length_nil]; omega)) only [hB, go_sem, fill_c, ↓reduceIte, reduceCtorEq, Nat.reduceAdd, Nat.reduceSub, Nat.reducePow, Nat.reduceMul, Nat.reduceEqDiff, Nat.reduceLT, Nat.reduceLeDiff, Int.reduceToNat, Int.reduceLT, Int.reduceLE, Int.reduceEq, Int.reduceNeg, Int.reduceAdd, Int.reduceSub, Int.reduceMul]
      exact FinOk.drop (.inl rfl) (by simp [underL, underD]) ⟨rfl, rfl⟩
    | false =>
      simp (disch := first | omega | (simp only [List.length_append, List.length_cons, List.length_nil]; omega)) only [hB, go_sem, fill_c, ↓reduceIte, reduceCtorEq, Nat.reduceAdd, Nat.reduceSub, Nat.reducePow, Nat.reduceMul, Nat.reduceEqDiff, Nat.reduceLT, Nat.reduceLeDiff, Int.reduceToNat, Int.reduceLT, Int.reduceLE, Int.reduceEq, Int.reduceNeg, Int.reduceAdd, Int.reduceSub, Int.reduceMul]
      by_cases h1 : a ≤ c
      · simp (disch := first | omega | (simp only [List.length_append, List.length_cons, List.length_nil]; omega)) only [hB, h1, go_sem, fill_c, ↓reduceIte, reduceCtorEq, Nat.reduceAdd, Nat.reduceSub, Nat.reducePow, Nat.reduceMul, Nat.reduceEqDiff, Nat.reduceLT, Nat.reduceLeDiff, Int.reduceToNat, Int.reduceLT, Int.reduceLE, Int.reduceEq, Int.reduceNeg, Int.reduceAdd, Int.reduceSub, Int.reduceMul]
        exact FinOk.drop (.inl rfl) (by simp [underL, underD]) ⟨rfl, rfl⟩
      · simp (disch := first | omega | (simp only [List.length_append, List.length_cons, List.length_nil]; omega)) only [hB, h1, Bool.false_and, go_sem, fill_c, ↓reduceIte, reduceCtorEq, Nat.reduceAdd, Nat.reduceSub, Nat.reducePow, Nat.reduceMul, Nat.reduceEqDiff, Nat.reduceLT, Nat.reduceLeDiff, Int.reduceToNat, Int.reduceLT, Int.reduceLE, Int.reduceEq, Int.reduceNeg, Int.reduceAdd, Int.reduceSub, Int.reduceMul]
        exact FinOk.drop (.inl rfl) (by simp [underL, underD]) ⟨rfl, rfl⟩
theorem cwish_fc (h : Heap) (w n : Int) : FC Tryd.prog 25 [.int .i64 w, .int .i64 n] h fun d h' => d = .bool (wishOk w n) ∧ h' = h := by
  refine FC.goes cf25 ?_; simp only [c25]; simp only [List.length_cons, List.length_nil, Nat.reduceAdd, Nat.reduceSub, List.replicate_succ, List.replicate_zero, List.cons_append, List.nil_append]
  by_cases h0 : w = -1
  · have e : decide (w = -1) = true := decide_eq_true h0
    simp (disch := first | omega | (simp only [List.length_append, List.length_cons, List.length_nil]; omega)) only [c25r0, c25r1, e, Bool.true_or, wishOk, go_sem, fill_c, ↓reduceIte, reduceCtorEq, Nat.reduceAdd, Nat.reduceSub, Nat.reducePow, Nat.reduceMul, Nat.reduceEqDiff, Nat.reduceLT, Nat.reduceLeDiff, Int.reduceToNat, Int.reduceLT, Int.reduceLE, Int.reduceEq, Int.reduceNeg, Int.reduceAdd, Int.reduceSub, Int.reduceMul]
    exact FinOk.all ⟨rfl, rfl⟩
  · simp (disch := first | omega | (simp only [List.length_append, List.length_cons, List.length_nil]; omega)) only [c25r0, c25r1, h0, Bool.false_or, wishOk, go_sem, fill_c, ↓reduceIte, reduceCtorEq, Nat.reduceAdd, Nat.reduceSub, Nat.reducePow, Nat.reduceMul, Nat.reduceEqDiff, Nat.reduceLT, Nat.reduceLeDiff, Int.reduceToNat, Int.reduceLT, Int.reduceLE, Int.reduceEq, Int.reduceNeg, Int.reduceAdd, Int.reduceSub, Int.reduceMul]
    exact FinOk.all ⟨rfl, rfl⟩

/-- Does a rule match all keys that another one matches? -/
def coversF (a b : Ru) : Bool := bothOk a b && (withinF b.sv b.sa b.sn a.sv a.sa a.sn && (withinF b.dv b.da b.dn a.dv a.da a.dn &&
  (widerF a.slo a.shi b.slo b.shi && (widerF a.dlo a.dhi b.dlo b.dhi && (wishOk a.proto b.proto && wishOk a.dscp b.dscp)))))
theorem covers_fc (h : Heap) (a b : Ru) (oa : a.Ok) (ob : b.Ok) : FC Tryd.prog 7 [.agg (ru a), .agg (ru b)] h fun d h' => d = .bool (coversF a b) ∧ h' = h := by
  have la := ru_len oa
  have lb := ru_len ob
  refine FC.goes cf7 ?_; simp only [c7]; simp only [List.length_cons, List.length_nil, Nat.reduceAdd, Nat.reduceSub, List.replicate_succ, List.replicate_zero, List.cons_append, List.nil_append]
  simp (disch := first | omega | (simp only [List.length_append, List.length_cons, List.length_nil]; omega)) only [c7r0, c7r1, c7r2, c7r3, c7r4, la, lb, ru_one, ru_take, oa, ob, go_sem, ↓reduceIte, reduceCtorEq, Nat.reduceAdd, Nat.reduceSub, Nat.reducePow, Nat.reduceMul, Nat.reduceEqDiff, Nat.reduceLT, Nat.reduceLeDiff, Int.reduceToNat, Int.reduceLT, Int.reduceLE, Int.reduceEq, Int.reduceNeg, Int.reduceAdd, Int.reduceSub, Int.reduceMul]
  rw [ru_fill2 oa ob rfl]
  simp (disch := first | omega | (simp only [List.length_append, List.length_cons, List.length_nil]; omega)) only [go_sem, fill_c, ↓reduceIte, reduceCtorEq, Nat.reduceAdd, Nat.reduceSub, Nat.reducePow, Nat.reduceMul, Nat.reduceEqDiff, Nat.reduceLT, Nat.reduceLeDiff, Int.reduceToNat, Int.reduceLT, Int.reduceLE, Int.reduceEq, Int.reduceNeg, Int.reduceAdd, Int.reduceSub, Int.reduceMul]
  refine gfc_same (right_ok_fc _ _ [a, b] (by simp [oa, ob]) (rus_two oa ob (by simp (disch := first | omega | (simp only [List.length_append, List.length_cons, List.length_nil]; omega)) only [go_sem, fill_c, ↓reduceIte, reduceCtorEq, Nat.reduceAdd, Nat.reduceSub, Nat.reducePow, Nat.reduceMul, Nat.reduceEqDiff, Nat.reduceLT, Nat.reduceLeDiff, Int.reduceToNat, Int.reduceLT, Int.reduceLE, Int.reduceEq, Int.reduceNeg, Int.reduceAdd, Int.reduceSub, Int.reduceMul])) (by simp)) ?_
  rw [allOk_two]
  cases h1 : bothOk a b with
  | false =>
    have e : coversF a b = false := by rw [coversF, h1]; rfl
    rw [e]
    simp (disch := first | omega | (simp only [List.length_append, List.length_cons, List.length_nil]; omega)) only [go_sem, fill_c, ↓reduceIte, reduceCtorEq, Nat.reduceAdd, Nat.reduceSub, Nat.reducePow, Nat.reduceMul, Nat.reduceEqDiff, Nat.reduceLT, Nat.reduceLeDiff, Int.reduceToNat, Int.reduceLT, Int.reduceLE, Int.reduceEq, Int.reduceNeg, Int.reduceAdd, Int.reduceSub, Int.reduceMul]
    exact FinOk.drop (.inl rfl) (by simp [underL, underD]) ⟨rfl, rfl⟩
  | true =>
    simp (disch := first | omega | (simp only [List.length_append, List.length_cons, List.length_nil]; omega)) only [la, lb, ru_s, ru_d, ru_l18, oa, ob, go_sem, fill_c, ↓reduceIte, reduceCtorEq, Nat.reduceAdd, Nat.reduceSub, Nat.reducePow, Nat.reduceMul, Nat.reduceEqDiff, Nat.reduceLT, Nat.reduceLeDiff, Int.reduceToNat, Int.reduceLT, Int.reduceLE, Int.reduceEq, Int.reduceNeg, Int.reduceAdd, Int.reduceSub, Int.reduceMul]
    refine gfc_same (pwithin_fc _ b.sv b.sn a.sv a.sn b.sa a.sa ob.s oa.s) ?_
    cases h2 : withinF b.sv b.sa b.sn a.sv a.sa a.sn with
    | false =>
      have e : coversF a b = false := by rw [coversF, h1, h2]; rfl
      rw [e]
      simp (disch := first | omega | (simp only [List.length_append, List.length_cons, List.length_nil]; omega)) only [go_sem, fill_c, ↓reduceIte, reduceCtorEq, Nat.reduceAdd, Nat.reduceSub, Nat.reducePow, Nat.reduceMul, Nat.reduceEqDiff, Nat.reduceLT, Nat.reduceLeDiff, Int.reduceToNat, Int.reduceLT, Int.reduceLE, Int.reduceEq, Int.reduceNeg, Int.reduceAdd, Int.reduceSub, Int.reduceMul]
      exact FinOk.drop (.inl rfl) (by simp [underL, underD]) ⟨rfl, rfl⟩
    | true =>
      simp (disch := first | omega | (simp only [List.length_append, List.length_cons, List.length_nil]; omega)) only [la, lb, ru_s, ru_d, ru_l18, oa, ob, go_sem, fill_c, ↓reduceIte, reduceCtorEq, Nat.reduceAdd, Nat.reduceSub, Nat.reducePow, Nat.reduceMul, Nat.reduceEqDiff, Nat.reduceLT, Nat.reduceLeDiff, Int.reduceToNat, Int.reduceLT, Int.reduceLE, Int.reduceEq, Int.reduceNeg, Int.reduceAdd, Int.reduceSub, Int.reduceMul]
      refine gfc_same (pwithin_fc _ b.dv b.dn a.dv a.dn b.da a.da ob.d oa.d) ?_
      cases h3 : withinF b.dv b.da b.dn a.dv a.da a.dn with
      | false =>
        have e : coversF a b = false := by rw [coversF, h1, h2, h3]; rfl
        rw [e]
        simp (disch := first | omega | (simp only [List.length_append, List.length_cons, List.length_nil]; omega)) only [go_sem, fill_c, ↓reduceIte, reduceCtorEq, Nat.reduceAdd, Nat.reduceSub, Nat.reducePow, Nat.reduceMul, Nat.reduceEqDiff, Nat.reduceLT, Nat.reduceLeDiff, Int.reduceToNat, Int.reduceLT, Int.reduceLE, Int.reduceEq, Int.reduceNeg, Int.reduceAdd, Int.reduceSub, Int.reduceMul]
        exact FinOk.drop (.inl rfl) (by simp [underL, underD]) ⟨rfl, rfl⟩
      | true =>
        have e : coversF a b = (widerF a.slo a.shi b.slo b.shi && (widerF a.dlo a.dhi b.dlo b.dhi && (wishOk a.proto b.proto && wishOk a.dscp b.dscp))) := by rw [coversF, h1, h2, h3]; rfl
        rw [e]
        simp (disch := first | omega | (simp only [List.length_append, List.length_cons, List.length_nil]; omega)) only [ru_d36, ru_d38, ruT, oa, ob, go_sem, fill_c, ↓reduceIte, reduceCtorEq, Nat.reduceAdd, Nat.reduceSub, Nat.reducePow, Nat.reduceMul, Nat.reduceEqDiff, Nat.reduceLT, Nat.reduceLeDiff, Int.reduceToNat, Int.reduceLT, Int.reduceLE, Int.reduceEq, Int.reduceNeg, Int.reduceAdd, Int.reduceSub, Int.reduceMul]
        refine gfc_same (wider_fc _ _ _ _ _) ?_
        cases widerF a.slo a.shi b.slo b.shi with
        | false =>
          simp (disch := first | omega | (simp only [List.length_append, List.length_cons, List.length_nil]; omega)) only [Bool.false_and, go_sem, fill_c, ↓reduceIte, reduceCtorEq, Nat.reduceAdd, Nat.reduceSub, Nat.reducePow, Nat.reduceMul, Nat.reduceEqDiff, Nat.reduceLT, Nat.reduceLeDiff, Int.reduceToNat, Int.reduceLT, Int.reduceLE, Int.reduceEq, Int.reduceNeg, Int.reduceAdd, Int.reduceSub, Int.reduceMul]
          exact FinOk.drop (.inl rfl) (by simp [underL, underD]) ⟨rfl, rfl⟩
        | true =>
          simp (disch := first | omega | (simp only [List.length_append, List.length_cons, List.length_nil]; omega)) only [ru_d36, ru_d38, ruT, oa, ob, go_sem, fill_c, ↓reduceIte, reduceCtorEq, Nat.reduceAdd, Nat.reduceSub, Nat.reducePow, Nat.reduceMul, Nat.reduceEqDiff, Nat.reduceLT, Nat.reduceLeDiff, Int.reduceToNat, Int.reduceLT, Int.reduceLE, Int.reduceEq, Int.reduceNeg, Int.reduceAdd, Int.reduceSub, Int.reduceMul]
          refine gfc_same (wider_fc _ _ _ _ _) ?_
          cases widerF a.dlo a.dhi b.dlo b.dhi with
          | false =>
            simp (disch := first | omega | (simp only [List.length_append, List.length_cons, List.length_nil]; omega)) only [Bool.false_and, go_sem, fill_c, ↓reduceIte, reduceCtorEq, Nat.reduceAdd, Nat.reduceSub, Nat.reducePow, Nat.reduceMul, Nat.reduceEqDiff, Nat.reduceLT, Nat.reduceLeDiff, Int.reduceToNat, Int.reduceLT, Int.reduceLE, Int.reduceEq, Int.reduceNeg, Int.reduceAdd, Int.reduceSub, Int.reduceMul]
            exact FinOk.drop (.inl rfl) (by simp [underL, underD]) ⟨rfl, rfl⟩
          | true =>
            simp (disch := first | omega | (simp only [List.length_append, List.length_cons, List.length_nil]; omega)) only [ru_d40, ruT, oa, ob, go_sem, fill_c, ↓reduceIte, reduceCtorEq, Nat.reduceAdd, Nat.reduceSub, Nat.reducePow, Nat.reduceMul, Nat.reduceEqDiff, Nat.reduceLT, Nat.reduceLeDiff, Int.reduceToNat, Int.reduceLT, Int.reduceLE, Int.reduceEq, Int.reduceNeg, Int.reduceAdd, Int.reduceSub, Int.reduceMul]
            refine gfc_same (cwish_fc _ _ _) ?_
            cases wishOk a.proto b.proto with
            | false =>
              simp (disch := first | omega | (simp only [List.length_append, List.length_cons, List.length_nil]; omega)) only [Bool.false_and, go_sem, fill_c, ↓reduceIte, reduceCtorEq, Nat.reduceAdd, Nat.reduceSub, Nat.reducePow, Nat.reduceMul, Nat.reduceEqDiff, Nat.reduceLT, Nat.reduceLeDiff, Int.reduceToNat, Int.reduceLT, Int.reduceLE, Int.reduceEq, Int.reduceNeg, Int.reduceAdd, Int.reduceSub, Int.reduceMul]
              exact FinOk.drop (.inl rfl) (by simp [underL, underD]) ⟨rfl, rfl⟩
            | true =>
              simp (disch := first | omega | (simp only [List.length_append, List.length_cons, List.length_nil]; omega)) only [ru_d41, ruT, oa, ob, go_sem, fill_c, ↓reduceIte, reduceCtorEq, Nat.reduceAdd, Nat.reduceSub, Nat.reducePow, Nat.reduceMul, Nat.reduceEqDiff, Nat.reduceLT, Nat.reduceLeDiff, Int.reduceToNat, Int.reduceLT, Int.reduceLE, Int.reduceEq, Int.reduceNeg, Int.reduceAdd, Int.reduceSub, Int.reduceMul]
              refine gfc_same (cwish_fc _ _ _) ?_
              simp (disch := first | omega | (simp only [List.length_append, List.length_cons, List.length_nil]; omega)) only [go_sem, fill_c, ↓reduceIte, reduceCtorEq, Nat.reduceAdd, Nat.reduceSub, Nat.reducePow, Nat.reduceMul, Nat.reduceEqDiff, Nat.reduceLT, Nat.reduceLeDiff, Int.reduceToNat, Int.reduceLT, Int.reduceLE, Int.reduceEq, Int.reduceNeg, Int.reduceAdd, Int.reduceSub, Int.reduceMul]
              exact FinOk.drop (.inl rfl) (by simp [underL, underD]) ⟨rfl, rfl⟩

/-! ### A meeting -/
theorem set_same {h : Heap} {r : Nat} {b : Blk} (hb : h[r]? = some b) : h.set r b = h := by
  apply List.ext_getElem?
  intro i
  rw [List.getElem?_set]
  split
  · rename_i e; subst e
    rw [if_pos (List.getElem?_eq_some_iff.1 hb).1, hb]
  · rfl
theorem address_fc (h : Heap) (r : Nat) (q : Bool) (hb : h[r]? = some (.box [.bool q])) (v n w m : Int) (a b : List UInt8) (ha : a.length = 16) (hbl : b.length = 16) :
    FC Tryd.prog 13 [.ref r 0, .agg (pc v a n), .agg (pc w b m)] h fun d h' => d = .agg (ofBytes (if m < n then a else b)) ∧ h' = h.set r (.box [.bool (q || !(withinF v a n w b m || withinF w b m v a n))]) := by
  have hr : r < h.length := (List.getElem?_eq_some_iff.1 hb).1
  have hb2 : ∀ L : Heap, (h ++ L)[r]? = some (.box [.bool q]) := fun L => by
    rw [List.getElem?_append_left hr]; exact hb
  have hs : ∀ (L : Heap) (b : Blk), (h ++ L).set r b = h.set r b ++ L := fun L b => List.set_append_left _ _ hr
  have hl : ∀ (b : Blk), (h.set r b).length = h.length := fun b => List.length_set
  have ob : (ofBytes b).length = 16 := by rw [ofBytes_length, hbl]
  have oa : (ofBytes a).length = 16 := by rw [ofBytes_length, ha]
  have ta : (ofBytes a).take 16 = ofBytes a := List.take_of_length_le (by omega)
  have tb : (ofBytes b).take 16 = ofBytes b := List.take_of_length_le (by omega)
  refine FC.goes cf13 ?_; simp only [c13]; simp only [List.length_cons, List.length_nil, Nat.reduceAdd, Nat.reduceSub, List.replicate_succ, List.replicate_zero, List.cons_append, List.nil_append]
  simp (disch := first | omega | (simp only [List.length_append, List.length_cons, List.length_nil]; omega)) only [c13r0, c13r1, c13r2, c13r3, c13r4, pc_len, pc_one, ha, hbl, hb2, go_sem, fill_c, ↓reduceIte, reduceCtorEq, Nat.reduceAdd, Nat.reduceSub, Nat.reducePow, Nat.reduceMul, Nat.reduceEqDiff, Nat.reduceLT, Nat.reduceLeDiff, Int.reduceToNat, Int.reduceLT, Int.reduceLE, Int.reduceEq, Int.reduceNeg, Int.reduceAdd, Int.reduceSub, Int.reduceMul]
  cases q with
  | true =>
    simp (disch := first | omega | (simp only [List.length_append, List.length_cons, List.length_nil]; omega)) only [hb2, hs, go_sem, fill_c, ↓reduceIte, reduceCtorEq, Nat.reduceAdd, Nat.reduceSub, Nat.reducePow, Nat.reduceMul, Nat.reduceEqDiff, Nat.reduceLT, Nat.reduceLeDiff, Int.reduceToNat, Int.reduceLT, Int.reduceLE, Int.reduceEq, Int.reduceNeg, Int.reduceAdd, Int.reduceSub, Int.reduceMul]
    rw [Bool.true_or]
    have hl2 := hl (.box [.bool true])
    generalize e2 : h.set r (.box [.bool true]) = h2 at hl2 ⊢
    rw [← hl2]
    by_cases hc : m < n
    · rw [if_pos hc]
      simp (disch := first | omega | (simp only [List.length_append, List.length_cons, List.length_nil]; omega)) only [pc_n, ha, hbl, hc, pc_len, pc_a, pc_dl, oa, ob, ta, tb, go_sem, fill_c, ↓reduceIte, reduceCtorEq, Nat.reduceAdd, Nat.reduceSub, Nat.reducePow, Nat.reduceMul, Nat.reduceEqDiff, Nat.reduceLT, Nat.reduceLeDiff, Int.reduceToNat, Int.reduceLT, Int.reduceLE, Int.reduceEq, Int.reduceNeg, Int.reduceAdd, Int.reduceSub, Int.reduceMul]
      subst e2
      exact FinOk.set rfl (by simp [underL, underD, under_bytes]) ⟨rfl, rfl⟩
    · rw [if_neg hc]
      simp (disch := first | omega | (simp only [List.length_append, List.length_cons, List.length_nil]; omega)) only [pc_n, ha, hbl, hc, pc_len, pc_a, pc_dl, oa, ob, ta, tb, go_sem, fill_c, ↓reduceIte, reduceCtorEq, Nat.reduceAdd, Nat.reduceSub, Nat.reducePow, Nat.reduceMul, Nat.reduceEqDiff, Nat.reduceLT, Nat.reduceLeDiff, Int.reduceToNat, Int.reduceLT, Int.reduceLE, Int.reduceEq, Int.reduceNeg, Int.reduceAdd, Int.reduceSub, Int.reduceMul]
      subst e2
      exact FinOk.set rfl (by simp [underL, underD, under_bytes]) ⟨rfl, rfl⟩
  | false =>
    simp (disch := first | omega | (simp only [List.length_append, List.length_cons, List.length_nil]; omega)) only [hb2, hs, pc_len, pc_take, ha, hbl, go_sem, fill_c, ↓reduceIte, reduceCtorEq, Nat.reduceAdd, Nat.reduceSub, Nat.reducePow, Nat.reduceMul, Nat.reduceEqDiff, Nat.reduceLT, Nat.reduceLeDiff, Int.reduceToNat, Int.reduceLT, Int.reduceLE, Int.reduceEq, Int.reduceNeg, Int.reduceAdd, Int.reduceSub, Int.reduceMul]
    refine gfc_same (pmeet_fc _ v n w m a b ha hbl) ?_
    rw [Bool.false_or]
    generalize (withinF v a n w b m || withinF w b m v a n) = X
    simp (disch := first | omega | (simp only [List.length_append, List.length_cons, List.length_nil]; omega)) only [hb2, hs, go_sem, fill_c, ↓reduceIte, reduceCtorEq, Nat.reduceAdd, Nat.reduceSub, Nat.reducePow, Nat.reduceMul, Nat.reduceEqDiff, Nat.reduceLT, Nat.reduceLeDiff, Int.reduceToNat, Int.reduceLT, Int.reduceLE, Int.reduceEq, Int.reduceNeg, Int.reduceAdd, Int.reduceSub, Int.reduceMul]
    have hl2 := hl (.box [.bool !X])
    generalize e2 : h.set r (.box [.bool !X]) = h2 at hl2 ⊢
    rw [← hl2]
    by_cases hc : m < n
    · rw [if_pos hc]
      simp (disch := first | omega | (simp only [List.length_append, List.length_cons, List.length_nil]; omega)) only [pc_n, ha, hbl, hc, pc_len, pc_a, pc_dl, oa, ob, ta, tb, go_sem, fill_c, ↓reduceIte, reduceCtorEq, Nat.reduceAdd, Nat.reduceSub, Nat.reducePow, Nat.reduceMul, Nat.reduceEqDiff, Nat.reduceLT, Nat.reduceLeDiff, Int.reduceToNat, Int.reduceLT, Int.reduceLE, Int.reduceEq, Int.reduceNeg, Int.reduceAdd, Int.reduceSub, Int.reduceMul]
      subst e2
      exact FinOk.set rfl (by simp [underL, underD, under_bytes]) ⟨rfl, rfl⟩
    · rw [if_neg hc]
      simp (disch := first | omega | (simp only [List.length_append, List.length_cons, List.length_nil]; omega)) only [pc_n, ha, hbl, hc, pc_len, pc_a, pc_dl, oa, ob, ta, tb, go_sem, fill_c, ↓reduceIte, reduceCtorEq, Nat.reduceAdd, Nat.reduceSub, Nat.reducePow, Nat.reduceMul, Nat.reduceEqDiff, Nat.reduceLT, Nat.reduceLeDiff, Int.reduceToNat, Int.reduceLT, Int.reduceLE, Int.reduceEq, Int.reduceNeg, Int.reduceAdd, Int.reduceSub, Int.reduceMul]
      subst e2
      exact FinOk.set rfl (by simp [underL, underD, under_bytes]) ⟨rfl, rfl⟩
theorem mport2_fc (h : Heap) (r : Nat) (q : Bool) (hb : h[r]? = some (.box [.bool q])) (a b c d : Int) :
    FC Tryd.prog 14 [.ref r 0, .agg [.int .i64 a, .int .i64 b], .agg [.int .i64 c, .int .i64 d]] h fun x h' => x = .int .i64 (meetLo a b c d) ∧ h' = h.set r (.box [.bool (q || !meetB a b c d)]) := by
  have hr : r < h.length := (List.getElem?_eq_some_iff.1 hb).1
  have hb2 : ∀ L : Heap, (h ++ L)[r]? = some (.box [.bool q]) := fun L => by
    rw [List.getElem?_append_left hr]; exact hb
  have hs : ∀ (L : Heap) (b : Blk), (h ++ L).set r b = h.set r b ++ L := fun L b => List.set_append_left _ _ hr
  have hl : ∀ (b : Blk), (h.set r b).length = h.length := fun b => List.length_set
  refine FC.goes cf14 ?_; simp only [c14]; simp only [List.length_cons, List.length_nil, Nat.reduceAdd, Nat.reduceSub, List.replicate_succ, List.replicate_zero, List.cons_append, List.nil_append]
  simp (disch := first | omega | (simp only [List.length_append, List.length_cons, List.length_nil]; omega)) only [c14r0, c14r1, c14r2, c14r3, go_sem, fill_c, ↓reduceIte, reduceCtorEq, Nat.reduceAdd, Nat.reduceSub, Nat.reducePow, Nat.reduceMul, Nat.reduceEqDiff, Nat.reduceLT, Nat.reduceLeDiff, Int.reduceToNat, Int.reduceLT, Int.reduceLE, Int.reduceEq, Int.reduceNeg, Int.reduceAdd, Int.reduceSub, Int.reduceMul]
  refine gfc_same (smeet_fc _ a b c d) ?_
  cases q with
  | true =>
    simp (disch := first | omega | (simp only [List.length_append, List.length_cons, List.length_nil]; omega)) only [hb2, hs, splice0, go_sem, fill_c, ↓reduceIte, reduceCtorEq, Nat.reduceAdd, Nat.reduceSub, Nat.reducePow, Nat.reduceMul, Nat.reduceEqDiff, Nat.reduceLT, Nat.reduceLeDiff, Int.reduceToNat, Int.reduceLT, Int.reduceLE, Int.reduceEq, Int.reduceNeg, Int.reduceAdd, Int.reduceSub, Int.reduceMul]
    rw [Bool.true_or]
    have hl2 := hl (.box [.bool true])
    generalize e2 : h.set r (.box [.bool true]) = h2 at hl2 ⊢
    rw [← hl2]
    simp (disch := first | omega | (simp only [List.length_append, List.length_cons, List.length_nil]; omega)) only [go_sem, fill_c, ↓reduceIte, reduceCtorEq, Nat.reduceAdd, Nat.reduceSub, Nat.reducePow, Nat.reduceMul, Nat.reduceEqDiff, Nat.reduceLT, Nat.reduceLeDiff, Int.reduceToNat, Int.reduceLT, Int.reduceLE, Int.reduceEq, Int.reduceNeg, Int.reduceAdd, Int.reduceSub, Int.reduceMul]
    subst e2
    exact FinOk.set rfl (by simp [underL, underD]) ⟨rfl, rfl⟩
  | false =>
    simp (disch := first | omega | (simp only [List.length_append, List.length_cons, List.length_nil]; omega)) only [hb2, hs, splice0, go_sem, fill_c, ↓reduceIte, reduceCtorEq, Nat.reduceAdd, Nat.reduceSub, Nat.reducePow, Nat.reduceMul, Nat.reduceEqDiff, Nat.reduceLT, Nat.reduceLeDiff, Int.reduceToNat, Int.reduceLT, Int.reduceLE, Int.reduceEq, Int.reduceNeg, Int.reduceAdd, Int.reduceSub, Int.reduceMul]
    rw [Bool.false_or]
    have hl2 := hl (.box [.bool !meetB a b c d])
    generalize e2 : h.set r (.box [.bool !meetB a b c d]) = h2 at hl2 ⊢
    rw [← hl2]
    simp (disch := first | omega | (simp only [List.length_append, List.length_cons, List.length_nil]; omega)) only [go_sem, fill_c, ↓reduceIte, reduceCtorEq, Nat.reduceAdd, Nat.reduceSub, Nat.reducePow, Nat.reduceMul, Nat.reduceEqDiff, Nat.reduceLT, Nat.reduceLeDiff, Int.reduceToNat, Int.reduceLT, Int.reduceLE, Int.reduceEq, Int.reduceNeg, Int.reduceAdd, Int.reduceSub, Int.reduceMul]
    subst e2
    exact FinOk.set rfl (by simp [underL, underD]) ⟨rfl, rfl⟩
/-- The number that two ask, or another one; and do they part? -/
def numF (a b o : Int) : Int := if a = -1 ∧ b = -1 then o else if a = -1 then b else a
def numP (a b : Int) : Bool := decide (¬ a = -1 ∧ ¬ b = -1 ∧ ¬ a = b)
theorem number_fc (h : Heap) (r : Nat) (q : Bool) (hb : h[r]? = some (.box [.bool q])) (a b o : Int) :
    FC Tryd.prog 15 [.ref r 0, .int .i64 a, .int .i64 b, .int .i64 o] h fun x h' => x = .int .i64 (numF a b o) ∧ h' = h.set r (.box [.bool (q || numP a b)]) := by
  have hr : r < h.length := (List.getElem?_eq_some_iff.1 hb).1
  refine FC.goes cf15 ?_; simp only [c15]; simp only [List.length_cons, List.length_nil, Nat.reduceAdd, Nat.reduceSub, List.replicate_succ, List.replicate_zero, List.cons_append, List.nil_append]
  by_cases h1 : a = -1
  · have e1 : decide (a = -1) = true := decide_eq_true h1
    have hp : numP a b = false := by simp [numP, h1]
    rw [hp, Bool.or_false, set_same hb]
    by_cases h2 : b = -1
    · have e2 : decide (b = -1) = true := decide_eq_true h2
      have e : numF a b o = o := by simp [numF, h1, h2]
      rw [e]
      simp (disch := first | omega | (simp only [List.length_append, List.length_cons, List.length_nil]; omega)) only [c15r0, c15r1, c15r2, c15r3, c15r4, c15r5, c15r6, c15r7, e1, e2, go_sem, fill_c, ↓reduceIte, reduceCtorEq, Nat.reduceAdd, Nat.reduceSub, Nat.reducePow, Nat.reduceMul, Nat.reduceEqDiff, Nat.reduceLT, Nat.reduceLeDiff, Int.reduceToNat, Int.reduceLT, Int.reduceLE, Int.reduceEq, Int.reduceNeg, Int.reduceAdd, Int.reduceSub, Int.reduceMul]
      exact FinOk.all ⟨rfl, rfl⟩
    · have e : numF a b o = b := by simp [numF, h1, h2]
      rw [e]
      simp (disch := first | omega | (simp only [List.length_append, List.length_cons, List.length_nil]; omega)) only [c15r0, c15r1, c15r2, c15r3, c15r4, c15r5, c15r6, c15r7, e1, h2, go_sem, fill_c, ↓reduceIte, reduceCtorEq, Nat.reduceAdd, Nat.reduceSub, Nat.reducePow, Nat.reduceMul, Nat.reduceEqDiff, Nat.reduceLT, Nat.reduceLeDiff, Int.reduceToNat, Int.reduceLT, Int.reduceLE, Int.reduceEq, Int.reduceNeg, Int.reduceAdd, Int.reduceSub, Int.reduceMul]
      exact FinOk.all ⟨rfl, rfl⟩
  · have e : numF a b o = a := by simp [numF, h1]
    rw [e]
    by_cases h2 : b = -1
    · have e2 : decide (b = -1) = true := decide_eq_true h2
      have hp : numP a b = false := by simp [numP, h2]
      rw [hp, Bool.or_false, set_same hb]
      simp (disch := first | omega | (simp only [List.length_append, List.length_cons, List.length_nil]; omega)) only [c15r0, c15r1, c15r2, c15r3, c15r4, c15r5, c15r6, c15r7, h1, e2, Bool.false_and, go_sem, fill_c, ↓reduceIte, reduceCtorEq, Nat.reduceAdd, Nat.reduceSub, Nat.reducePow, Nat.reduceMul, Nat.reduceEqDiff, Nat.reduceLT, Nat.reduceLeDiff, Int.reduceToNat, Int.reduceLT, Int.reduceLE, Int.reduceEq, Int.reduceNeg, Int.reduceAdd, Int.reduceSub, Int.reduceMul]
      exact FinOk.all ⟨rfl, rfl⟩
    · by_cases h3 : a = b
      · have e3 : decide (a = b) = true := decide_eq_true h3
        have hp : numP a b = false := by simp [numP, h3]
        rw [hp, Bool.or_false, set_same hb]
        simp (disch := first | omega | (simp only [List.length_append, List.length_cons, List.length_nil]; omega)) only [c15r0, c15r1, c15r2, c15r3, c15r4, c15r5, c15r6, c15r7, h1, h2, e3, Bool.false_and, go_sem, fill_c, ↓reduceIte, reduceCtorEq, Nat.reduceAdd, Nat.reduceSub, Nat.reducePow, Nat.reduceMul, Nat.reduceEqDiff, Nat.reduceLT, Nat.reduceLeDiff, Int.reduceToNat, Int.reduceLT, Int.reduceLE, Int.reduceEq, Int.reduceNeg, Int.reduceAdd, Int.reduceSub, Int.reduceMul]
        exact FinOk.all ⟨rfl, rfl⟩
      · have hp : numP a b = true := by simp [numP, h1, h2, h3]
        rw [hp, Bool.or_true]
        simp (disch := first | omega | (simp only [List.length_append, List.length_cons, List.length_nil]; omega)) only [c15r0, c15r1, c15r2, c15r3, c15r4, c15r5, c15r6, c15r7, h1, h2, h3, Bool.false_and, hb, go_sem, fill_c, ↓reduceIte, reduceCtorEq, Nat.reduceAdd, Nat.reduceSub, Nat.reducePow, Nat.reduceMul, Nat.reduceEqDiff, Nat.reduceLT, Nat.reduceLeDiff, Int.reduceToNat, Int.reduceLT, Int.reduceLE, Int.reduceEq, Int.reduceNeg, Int.reduceAdd, Int.reduceSub, Int.reduceMul]
        exact FinOk.all ⟨rfl, rfl⟩
end Go.Proofs
