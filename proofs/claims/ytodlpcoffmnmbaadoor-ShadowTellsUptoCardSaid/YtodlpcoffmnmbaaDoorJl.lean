/-
  Own work. The document's Covers, Witness, Dead; the program's Dead.
-/
import Derived.Test.YtodlpcoffmnmbaaDoorJg
import Derived.Test.YtodlpcoffmnmbaaDoorJb
namespace Go.Proofs
open Go Go.YtodlpcoffmnmbaaDoor
set_option linter.unusedVariables false
set_option linter.unusedSimpArgs false
set_option maxRecDepth 10000

/-! ### weighbridge/weighbridgeref23.both, params 2 -/
def c16r0 : List AStm := [.op (some 2) none (.box (.t 0)),
    .op (some 3) none (.box (.t 1)),
    .op (some 4) none (.mv (.c (.bool false)))]
def c16r1 : List AStm := [.op (some 5) none (.load (some 43) (.t 2)),
    .call (some 6) none (.c (.fn (.func 31) [] [])) [(.t 5)],
    .op (some 7) none (.bin .eql (.t 6) (.c (.int .i64 0))),
    .op (some 8) none (.mv (.t 7)),
    .op (some 9) (some (8, true)) (.load (some 43) (.t 3)),
    .call (some 10) (some (8, true)) (.c (.fn (.func 31) [] [])) [(.t 9)],
    .op (some 11) (some (8, true)) (.bin .eql (.t 10) (.c (.int .i64 0))),
    .op (some 12) none (.pick (.t 8) (.t 11) (.c (.bool false))),
    .op (some 4) none (.mv (.t 12))]
def c16 : CF := ⟨.seq (.reg c16r0) (.seq (.reg c16r1) (.ret)), [.tmp 4], 13⟩
theorem cf16 : cfun Tryd.prog 16 = some c16 := by kernel_rfl

/-! ### weighbridge/weighbridgeref23.longer, params 2 -/
def c17r0 : List AStm := [.op (some 2) none (.box (.t 0)),
    .op (some 3) none (.box (.t 1)),
    .op (some 4) none (.alloc (List.replicate 16 (.int .u8 0))),
    .op (some 5) none (.mv (.c (.bool false)))]
def c17r1 : List AStm := [.op (some 6) none (.load (some 18) (.t 2)),
    .op (some 7) none (.load (some 18) (.t 3)),
    .call (some 8) none (.c (.fn (.func 27) [] [])) [(.t 6), (.t 7)]]
def c17r2 : List AStm := [.op (some 9) none (.faddr 1 (.t 2)),
    .op (some 10) none (.load (some 16) (.t 9)),
    .op none none (.store 16 (.t 4) (.t 10)),
    .op (some 5) none (.mv (.c (.bool true)))]
def c17r3 : List AStm := []
def c17r4 : List AStm := [.op (some 11) none (.faddr 1 (.t 3)),
    .op (some 12) none (.load (some 16) (.t 11)),
    .op (some 13) none (.load (some 18) (.t 3)),
    .op (some 14) none (.load (some 18) (.t 2)),
    .callG (some 15) none (.c (.fn (.func 27) [] [])) [(.t 13), (.t 14)],
    .op none none (.store 16 (.t 4) (.t 12)),
    .op (some 5) none (.mv (.t 15))]
def c17 : CF := ⟨.seq (.reg c17r0) (.seq (.seq (.reg c17r1) (.cond (.t 8) (.seq (.reg c17r2) (.ret)) (.skip))) (.seq (.dreg c17r3 c17r4) (.ret))), [.cell 4 (some 16), .tmp 5], 16⟩
theorem cf17 : cfun Tryd.prog 17 = some c17 := by kernel_rfl

/-! ### weighbridge/weighbridgeref23.either, params 3 -/
def c19r0 : List AStm := [.op (some 6) none (.mv (.c (.int .i64 0))),
    .op (some 7) none (.mv (.c (.bool false)))]
def c19r1 : List AStm := [.op (some 8) none (.mv (.t 0)),
    .op (some 9) none (.bin .eql (.t 8) (.c (.int .i64 (-1)))),
    .op (some 10) none (.mv (.t 9)),
    .op (some 11) (some (10, true)) (.mv (.t 1)),
    .op (some 12) (some (10, true)) (.bin .eql (.t 11) (.c (.int .i64 (-1)))),
    .op (some 13) none (.pick (.t 10) (.t 12) (.c (.bool false)))]
def c19r2 : List AStm := [.op (some 14) none (.mv (.t 2)),
    .op (some 6) none (.mv (.t 14)),
    .op (some 7) none (.mv (.c (.bool true)))]
def c19r3 : List AStm := [.op (some 15) none (.mv (.t 0)),
    .op (some 16) none (.mv (.t 1)),
    .op (some 17) none (.mnx true (.t 15) (.t 16)),
    .op (some 18) none (.mv (.t 0)),
    .op (some 19) none (.bin .eql (.t 18) (.c (.int .i64 (-1)))),
    .op (some 20) none (.mv (.t 19)),
    .op (some 21) (some (20, false)) (.mv (.t 1)),
    .op (some 22) (some (20, false)) (.bin .eql (.t 21) (.c (.int .i64 (-1)))),
    .op (some 23) none (.pick (.t 20) (.c (.bool true)) (.t 22)),
    .op (some 24) none (.mv (.t 23)),
    .op (some 25) (some (24, false)) (.mv (.t 0)),
    .op (some 26) (some (24, false)) (.mv (.t 1)),
    .op (some 27) (some (24, false)) (.bin .eql (.t 25) (.t 26)),
    .op (some 28) none (.pick (.t 24) (.c (.bool true)) (.t 27)),
    .op (some 6) none (.mv (.t 17)),
    .op (some 7) none (.mv (.t 28))]
def c19 : CF := ⟨.seq (.reg c19r0) (.seq (.seq (.reg c19r1) (.cond (.t 13) (.seq (.reg c19r2) (.ret)) (.skip))) (.seq (.reg c19r3) (.ret))), [.tmp 6, .tmp 7], 29⟩
theorem cf19 : cfun Tryd.prog 19 = some c19 := by kernel_rfl

/-! ### weighbridge/weighbridgeref23.inside, params 2 -/
def c28r0 : List AStm := [.op (some 2) none (.box (.t 0)),
    .op (some 3) none (.box (.t 1)),
    .op (some 4) none (.mv (.c (.bool false)))]
def c28r1 : List AStm := [.op (some 5) none (.load (some 2) (.t 3)),
    .op (some 6) none (.load (some 2) (.c (.fptr [(.int .i64 0), (.int .i64 65535)]))),
    .op (some 7) none (.eqa false [.ki, .ki] (.t 5) (.t 6)),
    .op (some 8) none (.mv (.t 7)),
    .op (some 9) (some (8, false)) (.load (some 2) (.t 2)),
    .op (some 10) (some (8, false)) (.load (some 2) (.c (.fptr [(.int .i64 0), (.int .i64 65535)]))),
    .op (some 11) (some (8, false)) (.eqa true [.ki, .ki] (.t 9) (.t 10)),
    .op (some 12) (some (8, false)) (.mv (.t 11)),
    .op (some 13) (some (12, true)) (.faddr 0 (.t 3)),
    .op (some 14) (some (12, true)) (.load none (.t 13)),
    .op (some 15) (some (12, true)) (.faddr 0 (.t 2)),
    .op (some 16) (some (12, true)) (.load none (.t 15)),
    .op (some 17) (some (12, true)) (.bin .leq (.t 14) (.t 16)),
    .op (some 18) (some (8, false)) (.pick (.t 12) (.t 17) (.c (.bool false))),
    .op (some 19) (some (8, false)) (.mv (.t 18)),
    .op (some 20) (some (19, true)) (.faddr 1 (.t 2)),
    .op (some 21) (some (19, true)) (.load none (.t 20)),
    .op (some 22) (some (19, true)) (.faddr 1 (.t 3)),
    .op (some 23) (some (19, true)) (.load none (.t 22)),
    .op (some 24) (some (19, true)) (.bin .leq (.t 21) (.t 23)),
    .op (some 25) (some (8, false)) (.pick (.t 19) (.t 24) (.c (.bool false))),
    .op (some 26) none (.pick (.t 8) (.c (.bool true)) (.t 25)),
    .op (some 4) none (.mv (.t 26))]
def c28 : CF := ⟨.seq (.reg c28r0) (.seq (.reg c28r1) (.ret)), [.tmp 4], 27⟩
theorem cf28 : cfun Tryd.prog 28 = some c28 := by kernel_rfl

/-! ### weighbridge/weighbridgeref23.Covers, params 2 -/
def c8r0 : List AStm := [.op (some 2) none (.box (.t 0)),
    .op (some 3) none (.box (.t 1)),
    .op (some 4) none (.mv (.c (.bool false)))]
def c8r1 : List AStm := [.op (some 5) none (.load (some 43) (.t 2)),
    .op (some 6) none (.load (some 43) (.t 3)),
    .call (some 7) none (.c (.fn (.func 16) [] [])) [(.t 5), (.t 6)],
    .op (some 8) none (.mv (.t 7)),
    .op (some 9) (some (8, true)) (.faddr 0 (.t 3)),
    .op (some 10) (some (8, true)) (.load (some 18) (.t 9)),
    .op (some 11) (some (8, true)) (.faddr 0 (.t 2)),
    .op (some 12) (some (8, true)) (.load (some 18) (.t 11)),
    .call (some 13) (some (8, true)) (.c (.fn (.func 27) [] [])) [(.t 10), (.t 12)],
    .op (some 14) none (.pick (.t 8) (.t 13) (.c (.bool false))),
    .op (some 15) none (.mv (.t 14)),
    .op (some 16) (some (15, true)) (.faddr 18 (.t 3)),
    .op (some 17) (some (15, true)) (.load (some 18) (.t 16)),
    .op (some 18) (some (15, true)) (.faddr 18 (.t 2)),
    .op (some 19) (some (15, true)) (.load (some 18) (.t 18)),
    .call (some 20) (some (15, true)) (.c (.fn (.func 27) [] [])) [(.t 17), (.t 19)],
    .op (some 21) none (.pick (.t 15) (.t 20) (.c (.bool false))),
    .op (some 22) none (.mv (.t 21)),
    .op (some 23) (some (22, true)) (.faddr 36 (.t 3)),
    .op (some 24) (some (22, true)) (.load (some 2) (.t 23)),
    .op (some 25) (some (22, true)) (.faddr 36 (.t 2)),
    .op (some 26) (some (22, true)) (.load (some 2) (.t 25)),
    .call (some 27) (some (22, true)) (.c (.fn (.func 28) [] [])) [(.t 24), (.t 26)],
    .op (some 28) none (.pick (.t 22) (.t 27) (.c (.bool false))),
    .op (some 29) none (.mv (.t 28)),
    .op (some 30) (some (29, true)) (.faddr 38 (.t 3)),
    .op (some 31) (some (29, true)) (.load (some 2) (.t 30)),
    .op (some 32) (some (29, true)) (.faddr 38 (.t 2)),
    .op (some 33) (some (29, true)) (.load (some 2) (.t 32)),
    .call (some 34) (some (29, true)) (.c (.fn (.func 28) [] [])) [(.t 31), (.t 33)],
    .op (some 35) none (.pick (.t 29) (.t 34) (.c (.bool false))),
    .op (some 36) none (.mv (.t 35)),
    .op (some 37) (some (36, true)) (.faddr 40 (.t 2)),
    .op (some 38) (some (36, true)) (.load none (.t 37)),
    .op (some 39) (some (36, true)) (.bin .eql (.t 38) (.c (.int .i64 (-1)))),
    .op (some 40) (some (36, true)) (.mv (.t 39)),
    .op (some 41) (some (40, false)) (.faddr 40 (.t 2)),
    .op (some 42) (some (40, false)) (.load none (.t 41)),
    .op (some 43) (some (40, false)) (.faddr 40 (.t 3)),
    .op (some 44) (some (40, false)) (.load none (.t 43)),
    .op (some 45) (some (40, false)) (.bin .eql (.t 42) (.t 44)),
    .op (some 46) (some (36, true)) (.pick (.t 40) (.c (.bool true)) (.t 45)),
    .op (some 47) none (.pick (.t 36) (.t 46) (.c (.bool false))),
    .op (some 48) none (.mv (.t 47)),
    .op (some 49) (some (48, true)) (.faddr 41 (.t 2)),
    .op (some 50) (some (48, true)) (.load none (.t 49)),
    .op (some 51) (some (48, true)) (.bin .eql (.t 50) (.c (.int .i64 (-1)))),
    .op (some 52) (some (48, true)) (.mv (.t 51)),
    .op (some 53) (some (52, false)) (.faddr 41 (.t 2)),
    .op (some 54) (some (52, false)) (.load none (.t 53)),
    .op (some 55) (some (52, false)) (.faddr 41 (.t 3)),
    .op (some 56) (some (52, false)) (.load none (.t 55)),
    .op (some 57) (some (52, false)) (.bin .eql (.t 54) (.t 56)),
    .op (some 58) (some (48, true)) (.pick (.t 52) (.c (.bool true)) (.t 57)),
    .op (some 59) none (.pick (.t 48) (.t 58) (.c (.bool false))),
    .op (some 4) none (.mv (.t 59))]
def c8 : CF := ⟨.seq (.reg c8r0) (.seq (.reg c8r1) (.ret)), [.tmp 4], 60⟩
theorem cf8 : cfun Tryd.prog 8 = some c8 := by kernel_rfl

/-! ### weighbridge/weighbridgeref23.Dead, params 1 -/
def c11r0 : List AStm := [.op (some 1) none (.box (.t 0)),
    .op (some 2) none (.mv (.c (.bool false)))]
def c11r1 : List AStm := [.op (some 3) none (.load (some 43) (.t 1)),
    .call (some 4) none (.c (.fn (.func 31) [] [])) [(.t 3)],
    .op (some 5) none (.bin .eql (.t 4) (.c (.int .i64 0))),
    .op (some 6) none (.mv (.t 5)),
    .op (some 7) (some (6, true)) (.faddr 36 (.t 1)),
    .op (some 8) (some (6, true)) (.load (some 2) (.t 7)),
    .op (some 9) (some (6, true)) (.load (some 2) (.c (.fptr [(.int .i64 0), (.int .i64 65535)]))),
    .op (some 10) (some (6, true)) (.eqa true [.ki, .ki] (.t 8) (.t 9)),
    .op (some 11) (some (6, true)) (.mv (.t 10)),
    .op (some 12) (some (11, false)) (.faddr 38 (.t 1)),
    .op (some 13) (some (11, false)) (.load (some 2) (.t 12)),
    .op (some 14) (some (11, false)) (.load (some 2) (.c (.fptr [(.int .i64 0), (.int .i64 65535)]))),
    .op (some 15) (some (11, false)) (.eqa true [.ki, .ki] (.t 13) (.t 14)),
    .op (some 16) (some (6, true)) (.pick (.t 11) (.c (.bool true)) (.t 15)),
    .op (some 17) none (.pick (.t 6) (.t 16) (.c (.bool false))),
    .op (some 18) none (.mv (.t 17)),
    .op (some 19) (some (18, true)) (.faddr 40 (.t 1)),
    .op (some 20) (some (18, true)) (.load none (.t 19)),
    .op (some 21) (some (18, true)) (.bin .neq (.t 20) (.c (.int .i64 (-1)))),
    .op (some 22) none (.pick (.t 18) (.t 21) (.c (.bool false))),
    .op (some 23) none (.mv (.t 22)),
    .op (some 24) (some (23, true)) (.faddr 40 (.t 1)),
    .op (some 25) (some (23, true)) (.load none (.t 24)),
    .call (some 26) (some (23, true)) (.c (.fn (.func 32) [] [])) [(.t 25)],
    .op (some 27) (some (23, true)) (.bin .eql (.t 26) (.c (.int .i64 0))),
    .op (some 28) none (.pick (.t 23) (.t 27) (.c (.bool false))),
    .op (some 2) none (.mv (.t 28))]
def c11 : CF := ⟨.seq (.reg c11r0) (.seq (.reg c11r1) (.ret)), [.tmp 2], 29⟩
theorem cf11 : cfun Tryd.prog 11 = some c11 := by kernel_rfl

/-! ### weighbridge/shadow.Dead, params 1 -/
def c10r0 : List AStm := [.op (some 1) none (.box (.t 0)),
    .op (some 2) none (.mv (.c (.bool false)))]
def c10r1 : List AStm := []
def c10r2 : List AStm := [.op (some 4) none (.faddr 36 (.t 1)),
    .op (some 5) none (.load (some 2) (.t 4)),
    .callG (some 6) none (.c (.fn (.func 29) [] [])) [],
    .op (some 7) none (.eqa true [.ki, .ki] (.t 5) (.t 6)),
    .op (some 8) none (.mv (.t 7)),
    .op (some 9) (some (8, false)) (.faddr 38 (.t 1)),
    .op (some 10) (some (8, false)) (.load (some 2) (.t 9)),
    .callG (some 11) (some (8, false)) (.c (.fn (.func 29) [] [])) [],
    .op (some 12) (some (8, false)) (.eqa true [.ki, .ki] (.t 10) (.t 11)),
    .op (some 13) none (.pick (.t 8) (.c (.bool true)) (.t 12)),
    .op (some 3) none (.mv (.t 13))]
def c10r3 : List AStm := [.op (some 14) none (.load (some 43) (.t 1)),
    .op (some 15) none (.bslice 43 [(.int .i64 0), (.int .u8 0), (.int .u8 0), (.int .u8 0), (.int .u8 0), (.int .u8 0), (.int .u8 0), (.int .u8 0), (.int .u8 0), (.int .u8 0), (.int .u8 0), (.int .u8 0), (.int .u8 0), (.int .u8 0), (.int .u8 0), (.int .u8 0), (.int .u8 0), (.int .i64 0), (.int .i64 0), (.int .u8 0), (.int .u8 0), (.int .u8 0), (.int .u8 0), (.int .u8 0), (.int .u8 0), (.int .u8 0), (.int .u8 0), (.int .u8 0), (.int .u8 0), (.int .u8 0), (.int .u8 0), (.int .u8 0), (.int .u8 0), (.int .u8 0), (.int .u8 0), (.int .i64 0), (.int .i64 0), (.int .i64 0), (.int .i64 0), (.int .i64 0), (.int .i64 0), (.int .i64 0), (.int .i64 0)] 1 [(0, 43, (.t 14))]),
    .call (some 16) none (.c (.fn (.func 12) [] [])) [(.t 15)],
    .op (some 17) none (.mv (.t 16)),
    .op (some 18) (some (17, true)) (.mv (.t 3)),
    .op (some 19) none (.pick (.t 17) (.t 18) (.c (.bool false))),
    .op (some 20) none (.mv (.t 19)),
    .op (some 21) (some (20, true)) (.faddr 40 (.t 1)),
    .op (some 22) (some (20, true)) (.load none (.t 21)),
    .op (some 23) (some (20, true)) (.bin .neq (.t 22) (.c (.int .i64 (-1)))),
    .op (some 24) none (.pick (.t 20) (.t 23) (.c (.bool false))),
    .op (some 25) none (.mv (.t 24)),
    .op (some 26) (some (25, true)) (.faddr 40 (.t 1)),
    .op (some 27) (some (25, true)) (.load none (.t 26)),
    .call (some 28) (some (25, true)) (.c (.fn (.func 30) [] [])) [(.t 27)],
    .op (some 29) (some (25, true)) (.bin .eql (.t 28) (.c (.int .i64 0))),
    .op (some 30) none (.pick (.t 25) (.t 29) (.c (.bool false))),
    .op (some 2) none (.mv (.t 30))]
def c10 : CF := ⟨.seq (.reg c10r0) (.seq (.dreg c10r1 c10r2) (.seq (.reg c10r3) (.ret))), [.tmp 2], 31⟩
theorem cf10 : cfun Tryd.prog 10 = some c10 := by kernel_rfl

/-! ### weighbridge/ports.Least, params 1 -/
def c30r0 : List AStm := [.op (some 2) none (.mv (.c (.int .i64 0)))]
def c30r1 : List AStm := [.op (some 3) none (.mv (.c (.int .i64 0)))]
def c30r2 : List AStm := [.op (some 4) none (.mv (.t 0))]
def c30r3 : List AStm := [.op (some 6) none (.bin .eql (.t 4) (.c (.int .i64 6))),
    .op (some 5) none (.mv (.t 6))]
def c30r4 : List AStm := [.op (some 8) none (.bin .eql (.t 4) (.c (.int .i64 132))),
    .op (some 7) none (.mv (.t 8))]
def c30r5 : List AStm := [.op (some 10) none (.bin .eql (.t 4) (.c (.int .i64 17))),
    .op (some 9) none (.mv (.t 10))]
def c30r6 : List AStm := [.op (some 11) none (.mv (.t 3)),
    .op (some 12) none (.bin .add (.t 11) (.c (.int .i64 8))),
    .op (some 3) none (.mv (.t 12))]
def c30r7 : List AStm := [.op (some 13) none (.mv (.t 3)),
    .op (some 14) none (.bin .add (.t 13) (.c (.int .i64 4))),
    .op (some 3) none (.mv (.t 14))]
def c30r8 : List AStm := [.op (some 15) none (.mv (.t 3)),
    .op (some 16) none (.bin .add (.t 15) (.c (.int .i64 8))),
    .op (some 3) none (.mv (.t 16))]
def c30r9 : List AStm := [.op (some 17) none (.mv (.t 3)),
    .op (some 2) none (.mv (.t 17))]
def c30 : CF := ⟨.seq (.reg c30r0) (.seq (.reg c30r1) (.seq (.seq (.reg c30r2) (.block 0 (.seq (.block 3 (.seq (.block 2 (.seq (.block 1 (.seq (.seq (.seq (.reg c30r3) (.cond (.t 5) (.exit 1) (.skip))) (.seq (.seq (.reg c30r4) (.cond (.t 7) (.exit 2) (.skip))) (.seq (.reg c30r5) (.cond (.t 9) (.exit 3) (.skip))))) (.exit 0))) (.reg c30r6))) (.reg c30r7))) (.seq (.reg c30r8) (.exit 0))))) (.seq (.reg c30r9) (.ret)))), [.tmp 2], 18⟩
theorem cf30 : cfun Tryd.prog 30 = some c30 := by kernel_rfl

/-! ### weighbridge/weighbridgeref13.Least, params 1 -/
def c32r0 : List AStm := [.op (some 2) none (.mv (.c (.int .i64 0)))]
def c32r1 : List AStm := [.op (some 3) none (.mv (.t 0)),
    .op (some 4) none (.bin .eql (.t 3) (.c (.int .i64 6)))]
def c32r2 : List AStm := [.op (some 2) none (.mv (.c (.int .i64 20)))]
def c32r3 : List AStm := [.op (some 5) none (.mv (.t 0)),
    .op (some 6) none (.bin .eql (.t 5) (.c (.int .i64 17)))]
def c32r4 : List AStm := [.op (some 2) none (.mv (.c (.int .i64 8)))]
def c32r5 : List AStm := [.op (some 7) none (.mv (.t 0)),
    .op (some 8) none (.bin .eql (.t 7) (.c (.int .i64 132)))]
def c32r6 : List AStm := [.op (some 2) none (.mv (.c (.int .i64 12)))]
def c32r7 : List AStm := [.op (some 2) none (.mv (.c (.int .i64 0)))]
def c32 : CF := ⟨.seq (.reg c32r0) (.seq (.seq (.reg c32r1) (.cond (.t 4) (.seq (.reg c32r2) (.ret)) (.skip))) (.seq (.seq (.reg c32r3) (.cond (.t 6) (.seq (.reg c32r4) (.ret)) (.skip))) (.seq (.seq (.reg c32r5) (.cond (.t 8) (.seq (.reg c32r6) (.ret)) (.skip))) (.seq (.reg c32r7) (.ret))))), [.tmp 2], 9⟩
theorem cf32 : cfun Tryd.prog 32 = some c32 := by kernel_rfl



theorem rboth_fc (h : Heap) (a b : Ru) (oa : a.Ok) (ob : b.Ok) : FC Tryd.prog 16 [.agg (ru a), .agg (ru b)] h fun d h' => d = .bool (bothOk a b) ∧ h' = h := by
  have la := ru_len oa
  have lb := ru_len ob
  refine FC.goes cf16 ?_; simp only [c16]; simp only [List.length_cons, List.length_nil, Nat.reduceAdd, Nat.reduceSub, List.replicate_succ, List.replicate_zero, List.cons_append, List.nil_append]
  simp (disch := first | omega | (simp only [List.length_append, List.length_cons, List.length_nil]; omega)) only [c16r0, c16r1, la, lb, ru_one, ru_take, oa, ob, go_sem, fill_c, ↓reduceIte, reduceCtorEq, Nat.reduceAdd, Nat.reduceSub, Nat.reducePow, Nat.reduceMul, Nat.reduceEqDiff, Nat.reduceLT, Nat.reduceLeDiff, Int.reduceToNat, Int.reduceLT, Int.reduceLE, Int.reduceEq, Int.reduceNeg, Int.reduceAdd, Int.reduceSub, Int.reduceMul]
  refine gfc_same (rcheck17_fc _ a oa) ?_
  by_cases h1 : ruChk a = 0
  · have e1 : decide (ruChk a = 0) = true := decide_eq_true h1
    have e : bothOk a b = decide (ruChk b = 0) := by rw [bothOk, e1]; rfl
    rw [e]
    simp (disch := first | omega | (simp only [List.length_append, List.length_cons, List.length_nil]; omega)) only [e1, la, lb, ru_one, ru_take, oa, ob, go_sem, fill_c, ↓reduceIte, reduceCtorEq, Nat.reduceAdd, Nat.reduceSub, Nat.reducePow, Nat.reduceMul, Nat.reduceEqDiff, Nat.reduceLT, Nat.reduceLeDiff, Int.reduceToNat, Int.reduceLT, Int.reduceLE, Int.reduceEq, Int.reduceNeg, Int.reduceAdd, Int.reduceSub, Int.reduceMul]
    refine gfc_same (rcheck17_fc _ b ob) ?_
    simp (disch := first | omega | (simp only [List.length_append, List.length_cons, List.length_nil]; omega)) only [go_sem, fill_c, ↓reduceIte, reduceCtorEq, Nat.reduceAdd, Nat.reduceSub, Nat.reducePow, Nat.reduceMul, Nat.reduceEqDiff, Nat.reduceLT, Nat.reduceLeDiff, Int.reduceToNat, Int.reduceLT, Int.reduceLE, Int.reduceEq, Int.reduceNeg, Int.reduceAdd, Int.reduceSub, Int.reduceMul]
    exact FinOk.drop (.inl rfl) (by simp [underL, underD]) ⟨rfl, rfl⟩
  · have e : bothOk a b = false := by rw [bothOk, decide_eq_false h1]; rfl
    rw [e]
    simp (disch := first | omega | (simp only [List.length_append, List.length_cons, List.length_nil]; omega)) only [h1, go_sem, fill_c, ↓reduceIte, reduceCtorEq, Nat.reduceAdd, Nat.reduceSub, Nat.reducePow, Nat.reduceMul, Nat.reduceEqDiff, Nat.reduceLT, Nat.reduceLeDiff, Int.reduceToNat, Int.reduceLT, Int.reduceLE, Int.reduceEq, Int.reduceNeg, Int.reduceAdd, Int.reduceSub, Int.reduceMul]
    exact FinOk.drop (.inl rfl) (by simp [underL, underD]) ⟨rfl, rfl⟩
/-- The address of the longer one as the document tells it. -/
theorem rlonger_fc (h : Heap) (v n w m : Int) (a b : List UInt8) (ha : a.length = 16) (hb : b.length = 16) :
    FC Tryd.prog 17 [.agg (pc v a n), .agg (pc w b m)] h fun d h' => d = .tup [.agg (ofBytes (if withinF v a n w b m then a else b)), .bool (withinF v a n w b m || withinF w b m v a n)] ∧ h' = h := by
  have l1 := pc_len (v := v) (n := n) ha
  have l2 := pc_len (v := w) (n := m) hb
  have oa : (ofBytes a).length = 16 := by rw [ofBytes_length, ha]
  have ob : (ofBytes b).length = 16 := by rw [ofBytes_length, hb]
  have ta : (ofBytes a).take 16 = ofBytes a := List.take_of_length_le (by omega)
  have tb : (ofBytes b).take 16 = ofBytes b := List.take_of_length_le (by omega)
  refine FC.goes cf17 ?_; simp only [c17]; simp only [List.length_cons, List.length_nil, Nat.reduceAdd, Nat.reduceSub, List.replicate_succ, List.replicate_zero, List.cons_append, List.nil_append]
  simp (disch := first | omega | (simp only [List.length_append, List.length_cons, List.length_nil]; omega)) only [c17r0, c17r1, c17r2, c17r3, c17r4, l1, l2, pc_one, pc_take, ha, hb, go_sem, fill_c, ↓reduceIte, reduceCtorEq, Nat.reduceAdd, Nat.reduceSub, Nat.reducePow, Nat.reduceMul, Nat.reduceEqDiff, Nat.reduceLT, Nat.reduceLeDiff, Int.reduceToNat, Int.reduceLT, Int.reduceLE, Int.reduceEq, Int.reduceNeg, Int.reduceAdd, Int.reduceSub, Int.reduceMul]
  refine gfc_same (rwithin_fc _ v n w m a b ha hb) ?_
  cases hw : withinF v a n w b m with
  | true =>
    rw [if_pos rfl, Bool.true_or]
    simp (disch := first | omega | (simp only [List.length_append, List.length_cons, List.length_nil]; omega)) only [pc_a, pc_dl, ha, hb, oa, ob, ta, tb, go_sem, fill_c, ↓reduceIte, reduceCtorEq, Nat.reduceAdd, Nat.reduceSub, Nat.reducePow, Nat.reduceMul, Nat.reduceEqDiff, Nat.reduceLT, Nat.reduceLeDiff, Int.reduceToNat, Int.reduceLT, Int.reduceLE, Int.reduceEq, Int.reduceNeg, Int.reduceAdd, Int.reduceSub, Int.reduceMul]
    exact FinOk.drop (.inl rfl) (by simp [underL, underD, under_bytes]) ⟨rfl, rfl⟩
  | false =>
    rw [if_neg (by simp), Bool.false_or]
    simp (disch := first | omega | (simp only [List.length_append, List.length_cons, List.length_nil]; omega)) only [l1, l2, pc_take, pc_a, pc_dl, ha, hb, oa, ob, ta, tb, go_sem, fill_c, ↓reduceIte, reduceCtorEq, Nat.reduceAdd, Nat.reduceSub, Nat.reducePow, Nat.reduceMul, Nat.reduceEqDiff, Nat.reduceLT, Nat.reduceLeDiff, Int.reduceToNat, Int.reduceLT, Int.reduceLE, Int.reduceEq, Int.reduceNeg, Int.reduceAdd, Int.reduceSub, Int.reduceMul]
    refine xfc_same (rwithin_fc _ w m v n b a hb ha) ?_
    simp (disch := first | omega | (simp only [List.length_append, List.length_cons, List.length_nil]; omega)) only [pc_a, pc_dl, ha, hb, oa, ob, ta, tb, go_sem, fill_c, ↓reduceIte, reduceCtorEq, Nat.reduceAdd, Nat.reduceSub, Nat.reducePow, Nat.reduceMul, Nat.reduceEqDiff, Nat.reduceLT, Nat.reduceLeDiff, Int.reduceToNat, Int.reduceLT, Int.reduceLE, Int.reduceEq, Int.reduceNeg, Int.reduceAdd, Int.reduceSub, Int.reduceMul]
    exact FinOk.drop (.inl rfl) (by simp [underL, underD, under_bytes]) ⟨rfl, rfl⟩
/-- It is the same one. -/
theorem longer_same {v n w m : Int} {a b : List UInt8} (h : (withinF v a n w b m || withinF w b m v a n) = true) : (if withinF v a n w b m then a else b) = if m < n then a else b := by
  cases hw : withinF v a n w b m with
  | true =>
    rw [if_pos rfl]
    rw [within_iff] at hw
    obtain ⟨h1, h2, h3, h4, h5⟩ := hw
    split
    · rfl
    · have e : m = n := by omega
      rw [e, (check_facts h1).2.2] at h5
      exact h5
  | false =>
    rw [hw, Bool.false_or, within_iff] at h
    rw [if_neg (by simp), if_neg (by omega)]
theorem either_fc (h : Heap) (a b o : Int) : FC Tryd.prog 19 [.int .i64 a, .int .i64 b, .int .i64 o] h fun d h' => d = .tup [.int .i64 (if a = -1 ∧ b = -1 then o else max a b), .bool (!numP a b)] ∧ h' = h := by
  refine FC.goes cf19 ?_; simp only [c19]; simp only [List.length_cons, List.length_nil, Nat.reduceAdd, Nat.reduceSub, List.replicate_succ, List.replicate_zero, List.cons_append, List.nil_append]
  by_cases h1 : a = -1
  · have e1 : decide (a = -1) = true := decide_eq_true h1
    have hp : numP a b = false := by simp [numP, h1]
    rw [hp]
    by_cases h2 : b = -1
    · have e2 : decide (b = -1) = true := decide_eq_true h2
      rw [if_pos ⟨h1, h2⟩]
      simp (disch := first | omega | (simp only [List.length_append, List.length_cons, List.length_nil]; omega)) only [c19r0, c19r1, c19r2, c19r3, e1, e2, go_sem, fill_c, ↓reduceIte, reduceCtorEq, Nat.reduceAdd, Nat.reduceSub, Nat.reducePow, Nat.reduceMul, Nat.reduceEqDiff, Nat.reduceLT, Nat.reduceLeDiff, Int.reduceToNat, Int.reduceLT, Int.reduceLE, Int.reduceEq, Int.reduceNeg, Int.reduceAdd, Int.reduceSub, Int.reduceMul]
      exact FinOk.all ⟨rfl, rfl⟩
    · rw [if_neg (fun h => h2 h.2)]
      simp (disch := first | omega | (simp only [List.length_append, List.length_cons, List.length_nil]; omega)) only [c19r0, c19r1, c19r2, c19r3, e1, h2, mx_int, go_sem, fill_c, ↓reduceIte, reduceCtorEq, Nat.reduceAdd, Nat.reduceSub, Nat.reducePow, Nat.reduceMul, Nat.reduceEqDiff, Nat.reduceLT, Nat.reduceLeDiff, Int.reduceToNat, Int.reduceLT, Int.reduceLE, Int.reduceEq, Int.reduceNeg, Int.reduceAdd, Int.reduceSub, Int.reduceMul]
      exact FinOk.all ⟨rfl, rfl⟩
  · rw [if_neg (fun h => h1 h.1)]
    by_cases h2 : b = -1
    · have e2 : decide (b = -1) = true := decide_eq_true h2
      have hp : numP a b = false := by simp [numP, h2]
      rw [hp]
      simp (disch := first | omega | (simp only [List.length_append, List.length_cons, List.length_nil]; omega)) only [c19r0, c19r1, c19r2, c19r3, h1, e2, mx_int, Bool.false_and, go_sem, fill_c, ↓reduceIte, reduceCtorEq, Nat.reduceAdd, Nat.reduceSub, Nat.reducePow, Nat.reduceMul, Nat.reduceEqDiff, Nat.reduceLT, Nat.reduceLeDiff, Int.reduceToNat, Int.reduceLT, Int.reduceLE, Int.reduceEq, Int.reduceNeg, Int.reduceAdd, Int.reduceSub, Int.reduceMul]
      exact FinOk.all ⟨rfl, rfl⟩
    · have hp : (!numP a b) = decide (a = b) := by simp [numP, h1, h2]
      rw [hp]
      simp (disch := first | omega | (simp only [List.length_append, List.length_cons, List.length_nil]; omega)) only [c19r0, c19r1, c19r2, c19r3, h1, h2, mx_int, Bool.false_and, go_sem, fill_c, ↓reduceIte, reduceCtorEq, Nat.reduceAdd, Nat.reduceSub, Nat.reducePow, Nat.reduceMul, Nat.reduceEqDiff, Nat.reduceLT, Nat.reduceLeDiff, Int.reduceToNat, Int.reduceLT, Int.reduceLE, Int.reduceEq, Int.reduceNeg, Int.reduceAdd, Int.reduceSub, Int.reduceMul]
      exact FinOk.all ⟨rfl, rfl⟩
theorem inside_fc' (h : Heap) (a b c d : Int) : FC Tryd.prog 28 [.agg [.int .i64 c, .int .i64 d], .agg [.int .i64 a, .int .i64 b]] h fun r h' => r = .bool (widerF a b c d) ∧ h' = h := by
  refine FC.goes cf28 ?_; simp only [c28]; simp only [List.length_cons, List.length_nil, Nat.reduceAdd, Nat.reduceSub, List.replicate_succ, List.replicate_zero, List.cons_append, List.nil_append]
  cases hA : (a == 0 && b == 65535) with
  | true =>
    have e : widerF a b c d = true := by rw [widerF, hA]; rfl
    rw [e]
    simp (disch := first | omega | (simp only [List.length_append, List.length_cons, List.length_nil]; omega)) only [c28r0, c28r1, hA, go_sem, fill_c, ↓reduceIte, reduceCtorEq, Nat.reduceAdd, Nat.reduceSub, Nat.reducePow, Nat.reduceMul, Nat.reduceEqDiff, Nat.reduceLT, Nat.reduceLeDiff, Int.reduceToNat, Int.reduceLT, Int.reduceLE, Int.reduceEq, Int.reduceNeg, Int.reduceAdd, Int.reduceSub, Int.reduceMul]
    exact FinOk.drop (.inl rfl) (by simp [underL, underD]) ⟨rfl, rfl⟩
  | false =>
    have e : widerF a b c d = (!(c == 0 && d == 65535) && (decide (a ≤ c) && decide (d ≤ b))) := by rw [widerF, hA]; rfl
    rw [e]
    cases hB : (c == 0 && d == 65535) with
    | true =>
      simp (disch := first | omega | (simp only [List.length_append, List.length_cons, List.length_nil]; omega)) only [c28r0, c28r1, hA, hB, go_sem, fill_c, ↓reduceIte, reduceCtorEq, Nat.reduceAdd, Nat.reduceSub, Nat.reducePow, Nat.reduceMul, Nat.reduceEqDiff, Nat.reduceLT, Nat.reduceLeDiff, Int.reduceToNat, Int.reduceLT, Int.reduceLE, Int.reduceEq, Int.reduceNeg, Int.reduceAdd, Int.reduceSub, Int.reduceMul]
      exact FinOk.drop (.inl rfl) (by simp [underL, underD]) ⟨rfl, rfl⟩
    | false =>
      by_cases h1 : a ≤ c
      · simp (disch := first | omega | (simp only [List.length_append, List.length_cons, List.length_nil]; omega)) only [c28r0, c28r1, hA, hB, h1, go_sem, fill_c, ↓reduceIte, reduceCtorEq, Nat.reduceAdd, Nat.reduceSub, Nat.reducePow, Nat.reduceMul, Nat.reduceEqDiff, Nat.reduceLT, Nat.reduceLeDiff, Int.reduceToNat, Int.reduceLT, Int.reduceLE, Int.reduceEq, Int.reduceNeg, Int.reduceAdd, Int.reduceSub, Int.reduceMul]
        exact FinOk.drop (.inl rfl) (by simp [underL, underD]) ⟨rfl, rfl⟩
      · simp (disch := first | omega | (simp only [List.length_append, List.length_cons, List.length_nil]; omega)) only [c28r0, c28r1, hA, hB, h1, Bool.false_and, go_sem, fill_c, ↓reduceIte, reduceCtorEq, Nat.reduceAdd, Nat.reduceSub, Nat.reducePow, Nat.reduceMul, Nat.reduceEqDiff, Nat.reduceLT, Nat.reduceLeDiff, Int.reduceToNat, Int.reduceLT, Int.reduceLE, Int.reduceEq, Int.reduceNeg, Int.reduceAdd, Int.reduceSub, Int.reduceMul]
        exact FinOk.drop (.inl rfl) (by simp [underL, underD]) ⟨rfl, rfl⟩
theorem rcovers_fc (h : Heap) (a b : Ru) (oa : a.Ok) (ob : b.Ok) : FC Tryd.prog 8 [.agg (ru a), .agg (ru b)] h fun d h' => d = .bool (coversF a b) ∧ h' = h := by
  have la := ru_len oa
  have lb := ru_len ob
  have fin : ∀ (L : Heap) (x : Bool), coversF a b = x → FinOk h (h ++ L) [.bool x] fun d h' => d = .bool (coversF a b) ∧ h' = h := by
    rintro L x rfl
    exact FinOk.drop (.inl rfl) rfl ⟨rfl, rfl⟩
  refine FC.goes cf8 ?_; simp only [c8]; simp only [List.length_cons, List.length_nil, Nat.reduceAdd, Nat.reduceSub, List.replicate_succ, List.replicate_zero, List.cons_append, List.nil_append]
  simp (disch := first | omega | (simp only [List.length_append, List.length_cons, List.length_nil]; omega)) only [c8r0, c8r1, la, lb, ru_one, ru_take, oa, ob, go_sem, fill_c, ↓reduceIte, reduceCtorEq, Nat.reduceAdd, Nat.reduceSub, Nat.reducePow, Nat.reduceMul, Nat.reduceEqDiff, Nat.reduceLT, Nat.reduceLeDiff, Int.reduceToNat, Int.reduceLT, Int.reduceLE, Int.reduceEq, Int.reduceNeg, Int.reduceAdd, Int.reduceSub, Int.reduceMul]
  refine gfc_same (rboth_fc _ a b oa ob) ?_
  cases h1 : bothOk a b with
  | false =>
    simp (disch := first | omega | (simp only [List.length_append, List.length_cons, List.length_nil]; omega)) only [go_sem, fill_c, ↓reduceIte, reduceCtorEq, Nat.reduceAdd, Nat.reduceSub, Nat.reducePow, Nat.reduceMul, Nat.reduceEqDiff, Nat.reduceLT, Nat.reduceLeDiff, Int.reduceToNat, Int.reduceLT, Int.reduceLE, Int.reduceEq, Int.reduceNeg, Int.reduceAdd, Int.reduceSub, Int.reduceMul]
    exact fin _ _ (by rw [coversF, h1]; rfl)
  | true =>
    simp (disch := first | omega | (simp only [List.length_append, List.length_cons, List.length_nil]; omega)) only [la, lb, ru_s, ru_d, ru_l18, oa, ob, go_sem, fill_c, ↓reduceIte, reduceCtorEq, Nat.reduceAdd, Nat.reduceSub, Nat.reducePow, Nat.reduceMul, Nat.reduceEqDiff, Nat.reduceLT, Nat.reduceLeDiff, Int.reduceToNat, Int.reduceLT, Int.reduceLE, Int.reduceEq, Int.reduceNeg, Int.reduceAdd, Int.reduceSub, Int.reduceMul]
    refine gfc_same (rwithin_fc _ b.sv b.sn a.sv a.sn b.sa a.sa ob.s oa.s) ?_
    cases h2 : withinF b.sv b.sa b.sn a.sv a.sa a.sn with
    | false =>
      simp (disch := first | omega | (simp only [List.length_append, List.length_cons, List.length_nil]; omega)) only [go_sem, fill_c, ↓reduceIte, reduceCtorEq, Nat.reduceAdd, Nat.reduceSub, Nat.reducePow, Nat.reduceMul, Nat.reduceEqDiff, Nat.reduceLT, Nat.reduceLeDiff, Int.reduceToNat, Int.reduceLT, Int.reduceLE, Int.reduceEq, Int.reduceNeg, Int.reduceAdd, Int.reduceSub, Int.reduceMul]
      exact fin _ _ (by rw [coversF, h1, h2]; rfl)
    | true =>
      simp (disch := first | omega | (simp only [List.length_append, List.length_cons, List.length_nil]; omega)) only [la, lb, ru_s, ru_d, ru_l18, oa, ob, go_sem, fill_c, ↓reduceIte, reduceCtorEq, Nat.reduceAdd, Nat.reduceSub, Nat.reducePow, Nat.reduceMul, Nat.reduceEqDiff, Nat.reduceLT, Nat.reduceLeDiff, Int.reduceToNat, Int.reduceLT, Int.reduceLE, Int.reduceEq, Int.reduceNeg, Int.reduceAdd, Int.reduceSub, Int.reduceMul]
      refine gfc_same (rwithin_fc _ b.dv b.dn a.dv a.dn b.da a.da ob.d oa.d) ?_
      cases h3 : withinF b.dv b.da b.dn a.dv a.da a.dn with
      | false =>
        simp (disch := first | omega | (simp only [List.length_append, List.length_cons, List.length_nil]; omega)) only [go_sem, fill_c, ↓reduceIte, reduceCtorEq, Nat.reduceAdd, Nat.reduceSub, Nat.reducePow, Nat.reduceMul, Nat.reduceEqDiff, Nat.reduceLT, Nat.reduceLeDiff, Int.reduceToNat, Int.reduceLT, Int.reduceLE, Int.reduceEq, Int.reduceNeg, Int.reduceAdd, Int.reduceSub, Int.reduceMul]
        exact fin _ _ (by rw [coversF, h1, h2, h3]; rfl)
      | true =>
        simp (disch := first | omega | (simp only [List.length_append, List.length_cons, List.length_nil]; omega)) only [ru_d36, ru_d38, ruT, oa, ob, go_sem, fill_c, ↓reduceIte, reduceCtorEq, Nat.reduceAdd, Nat.reduceSub, Nat.reducePow, Nat.reduceMul, Nat.reduceEqDiff, Nat.reduceLT, Nat.reduceLeDiff, Int.reduceToNat, Int.reduceLT, Int.reduceLE, Int.reduceEq, Int.reduceNeg, Int.reduceAdd, Int.reduceSub, Int.reduceMul]
        refine gfc_same (inside_fc' _ _ _ _ _) ?_
        cases h4 : widerF a.slo a.shi b.slo b.shi with
        | false =>
          simp (disch := first | omega | (simp only [List.length_append, List.length_cons, List.length_nil]; omega)) only [Bool.false_and, go_sem, fill_c, ↓reduceIte, reduceCtorEq, Nat.reduceAdd, Nat.reduceSub, Nat.reducePow, Nat.reduceMul, Nat.reduceEqDiff, Nat.reduceLT, Nat.reduceLeDiff, Int.reduceToNat, Int.reduceLT, Int.reduceLE, Int.reduceEq, Int.reduceNeg, Int.reduceAdd, Int.reduceSub, Int.reduceMul]
          exact fin _ _ (by rw [coversF, h1, h2, h3, h4]; rfl)
        | true =>
          simp (disch := first | omega | (simp only [List.length_append, List.length_cons, List.length_nil]; omega)) only [ru_d36, ru_d38, ruT, oa, ob, go_sem, fill_c, ↓reduceIte, reduceCtorEq, Nat.reduceAdd, Nat.reduceSub, Nat.reducePow, Nat.reduceMul, Nat.reduceEqDiff, Nat.reduceLT, Nat.reduceLeDiff, Int.reduceToNat, Int.reduceLT, Int.reduceLE, Int.reduceEq, Int.reduceNeg, Int.reduceAdd, Int.reduceSub, Int.reduceMul]
          refine gfc_same (inside_fc' _ _ _ _ _) ?_
          cases h5 : widerF a.dlo a.dhi b.dlo b.dhi with
          | false =>
            simp (disch := first | omega | (simp only [List.length_append, List.length_cons, List.length_nil]; omega)) only [Bool.false_and, go_sem, fill_c, ↓reduceIte, reduceCtorEq, Nat.reduceAdd, Nat.reduceSub, Nat.reducePow, Nat.reduceMul, Nat.reduceEqDiff, Nat.reduceLT, Nat.reduceLeDiff, Int.reduceToNat, Int.reduceLT, Int.reduceLE, Int.reduceEq, Int.reduceNeg, Int.reduceAdd, Int.reduceSub, Int.reduceMul]
            exact fin _ _ (by rw [coversF, h1, h2, h3, h4, h5]; rfl)
          | true =>
            have e : coversF a b = (wishOk a.proto b.proto && wishOk a.dscp b.dscp) := by rw [coversF, h1, h2, h3, h4, h5]; rfl
            have dsc : ∀ (w n : Int), (decide (w = -1) = true ∧ wishOk w n = true) ∨ (decide (w = -1) = false ∧ wishOk w n = decide (w = n)) := by
              intro w n
              unfold wishOk
              cases decide (w = -1) <;> simp
            have hp := dsc a.proto b.proto
            have hq := dsc a.dscp b.dscp
            generalize wishOk a.proto b.proto = p at *
            generalize wishOk a.dscp b.dscp = q at *
            rcases hp with ⟨p1, rfl⟩ | ⟨p1, rfl⟩
            · simp (disch := first | omega | (simp only [List.length_append, List.length_cons, List.length_nil]; omega)) only [p1, ru_d40, ru_d41, ruT, oa, ob, go_sem, fill_c, ↓reduceIte, reduceCtorEq, Nat.reduceAdd, Nat.reduceSub, Nat.reducePow, Nat.reduceMul, Nat.reduceEqDiff, Nat.reduceLT, Nat.reduceLeDiff, Int.reduceToNat, Int.reduceLT, Int.reduceLE, Int.reduceEq, Int.reduceNeg, Int.reduceAdd, Int.reduceSub, Int.reduceMul]
              rcases hq with ⟨q1, rfl⟩ | ⟨q1, rfl⟩
              · simp (disch := first | omega | (simp only [List.length_append, List.length_cons, List.length_nil]; omega)) only [q1, ru_d40, ru_d41, ruT, oa, ob, go_sem, fill_c, ↓reduceIte, reduceCtorEq, Nat.reduceAdd, Nat.reduceSub, Nat.reducePow, Nat.reduceMul, Nat.reduceEqDiff, Nat.reduceLT, Nat.reduceLeDiff, Int.reduceToNat, Int.reduceLT, Int.reduceLE, Int.reduceEq, Int.reduceNeg, Int.reduceAdd, Int.reduceSub, Int.reduceMul]
                exact fin _ _ e
              · simp (disch := first | omega | (simp only [List.length_append, List.length_cons, List.length_nil]; omega)) only [q1, ru_d40, ru_d41, ruT, oa, ob, go_sem, fill_c, ↓reduceIte, reduceCtorEq, Nat.reduceAdd, Nat.reduceSub, Nat.reducePow, Nat.reduceMul, Nat.reduceEqDiff, Nat.reduceLT, Nat.reduceLeDiff, Int.reduceToNat, Int.reduceLT, Int.reduceLE, Int.reduceEq, Int.reduceNeg, Int.reduceAdd, Int.reduceSub, Int.reduceMul]
                exact fin _ _ e
            · simp (disch := first | omega | (simp only [List.length_append, List.length_cons, List.length_nil]; omega)) only [p1, ru_d40, ru_d41, ruT, oa, ob, go_sem, fill_c, ↓reduceIte, reduceCtorEq, Nat.reduceAdd, Nat.reduceSub, Nat.reducePow, Nat.reduceMul, Nat.reduceEqDiff, Nat.reduceLT, Nat.reduceLeDiff, Int.reduceToNat, Int.reduceLT, Int.reduceLE, Int.reduceEq, Int.reduceNeg, Int.reduceAdd, Int.reduceSub, Int.reduceMul]
              cases hpp : decide (a.proto = b.proto) with
              | false =>
                rw [hpp] at e
                simp (disch := first | omega | (simp only [List.length_append, List.length_cons, List.length_nil]; omega)) only [hpp, go_sem, fill_c, ↓reduceIte, reduceCtorEq, Nat.reduceAdd, Nat.reduceSub, Nat.reducePow, Nat.reduceMul, Nat.reduceEqDiff, Nat.reduceLT, Nat.reduceLeDiff, Int.reduceToNat, Int.reduceLT, Int.reduceLE, Int.reduceEq, Int.reduceNeg, Int.reduceAdd, Int.reduceSub, Int.reduceMul]
                exact fin _ _ e
              | true =>
                rw [hpp] at e
                rcases hq with ⟨q1, rfl⟩ | ⟨q1, rfl⟩
                · simp (disch := first | omega | (simp only [List.length_append, List.length_cons, List.length_nil]; omega)) only [hpp, q1, ru_d40, ru_d41, ruT, oa, ob, go_sem, fill_c, ↓reduceIte, reduceCtorEq, Nat.reduceAdd, Nat.reduceSub, Nat.reducePow, Nat.reduceMul, Nat.reduceEqDiff, Nat.reduceLT, Nat.reduceLeDiff, Int.reduceToNat, Int.reduceLT, Int.reduceLE, Int.reduceEq, Int.reduceNeg, Int.reduceAdd, Int.reduceSub, Int.reduceMul]
                  exact fin _ _ e
                · simp (disch := first | omega | (simp only [List.length_append, List.length_cons, List.length_nil]; omega)) only [hpp, q1, ru_d40, ru_d41, ruT, oa, ob, go_sem, fill_c, ↓reduceIte, reduceCtorEq, Nat.reduceAdd, Nat.reduceSub, Nat.reducePow, Nat.reduceMul, Nat.reduceEqDiff, Nat.reduceLT, Nat.reduceLeDiff, Int.reduceToNat, Int.reduceLT, Int.reduceLE, Int.reduceEq, Int.reduceNeg, Int.reduceAdd, Int.reduceSub, Int.reduceMul]
                  exact fin _ _ e
/-- How many bytes of a header there are at least. -/
def leastN (p : Int) : Int := if p = 6 then 20 else if p = 17 then 8 else if p = 132 then 12 else 0
theorem least_fc (h : Heap) (p : Int) : FC Tryd.prog 30 [.int .i64 p] h fun d h' => d = .int .i64 (leastN p) ∧ h' = h := by
  refine FC.goes cf30 ?_; simp only [c30]; simp only [List.length_cons, List.length_nil, Nat.reduceAdd, Nat.reduceSub, List.replicate_succ, List.replicate_zero, List.cons_append, List.nil_append]
  by_cases h1 : p = 6
  · subst h1
    simp (disch := first | omega | (simp only [List.length_append, List.length_cons, List.length_nil]; omega)) only [c30r0, c30r1, c30r2, c30r3, c30r4, c30r5, c30r6, c30r7, c30r8, c30r9, go_sem, fill_c, ↓reduceIte, reduceCtorEq, Nat.reduceAdd, Nat.reduceSub, Nat.reducePow, Nat.reduceMul, Nat.reduceEqDiff, Nat.reduceLT, Nat.reduceLeDiff, Int.reduceToNat, Int.reduceLT, Int.reduceLE, Int.reduceEq, Int.reduceNeg, Int.reduceAdd, Int.reduceSub, Int.reduceMul]
    exact FinOk.all ⟨rfl, rfl⟩
  by_cases h2 : p = 132
  · subst h2
    simp (disch := first | omega | (simp only [List.length_append, List.length_cons, List.length_nil]; omega)) only [c30r0, c30r1, c30r2, c30r3, c30r4, c30r5, c30r6, c30r7, c30r8, c30r9, go_sem, fill_c, ↓reduceIte, reduceCtorEq, Nat.reduceAdd, Nat.reduceSub, Nat.reducePow, Nat.reduceMul, Nat.reduceEqDiff, Nat.reduceLT, Nat.reduceLeDiff, Int.reduceToNat, Int.reduceLT, Int.reduceLE, Int.reduceEq, Int.reduceNeg, Int.reduceAdd, Int.reduceSub, Int.reduceMul]
    exact FinOk.all ⟨rfl, rfl⟩
  by_cases h3 : p = 17
  · subst h3
    simp (disch := first | omega | (simp only [List.length_append, List.length_cons, List.length_nil]; omega)) only [c30r0, c30r1, c30r2, c30r3, c30r4, c30r5, c30r6, c30r7, c30r8, c30r9, go_sem, fill_c, ↓reduceIte, reduceCtorEq, Nat.reduceAdd, Nat.reduceSub, Nat.reducePow, Nat.reduceMul, Nat.reduceEqDiff, Nat.reduceLT, Nat.reduceLeDiff, Int.reduceToNat, Int.reduceLT, Int.reduceLE, Int.reduceEq, Int.reduceNeg, Int.reduceAdd, Int.reduceSub, Int.reduceMul]
    exact FinOk.all ⟨rfl, rfl⟩
  · have e : leastN p = 0 := by simp [leastN, h1, h2, h3]
    rw [e]
    simp (disch := first | omega | (simp only [List.length_append, List.length_cons, List.length_nil]; omega)) only [c30r0, c30r1, c30r2, c30r3, c30r4, c30r5, c30r6, c30r7, c30r8, c30r9, h1, h2, h3, go_sem, fill_c, ↓reduceIte, reduceCtorEq, Nat.reduceAdd, Nat.reduceSub, Nat.reducePow, Nat.reduceMul, Nat.reduceEqDiff, Nat.reduceLT, Nat.reduceLeDiff, Int.reduceToNat, Int.reduceLT, Int.reduceLE, Int.reduceEq, Int.reduceNeg, Int.reduceAdd, Int.reduceSub, Int.reduceMul]
    exact FinOk.all ⟨rfl, rfl⟩
theorem rleast_fc (h : Heap) (p : Int) : FC Tryd.prog 32 [.int .i64 p] h fun d h' => d = .int .i64 (leastN p) ∧ h' = h := by
  refine FC.goes cf32 ?_; simp only [c32]; simp only [List.length_cons, List.length_nil, Nat.reduceAdd, Nat.reduceSub, List.replicate_succ, List.replicate_zero, List.cons_append, List.nil_append]
  by_cases h1 : p = 6
  · subst h1
    simp (disch := first | omega | (simp only [List.length_append, List.length_cons, List.length_nil]; omega)) only [c32r0, c32r1, c32r2, c32r3, c32r4, c32r5, c32r6, c32r7, go_sem, fill_c, ↓reduceIte, reduceCtorEq, Nat.reduceAdd, Nat.reduceSub, Nat.reducePow, Nat.reduceMul, Nat.reduceEqDiff, Nat.reduceLT, Nat.reduceLeDiff, Int.reduceToNat, Int.reduceLT, Int.reduceLE, Int.reduceEq, Int.reduceNeg, Int.reduceAdd, Int.reduceSub, Int.reduceMul]
    exact FinOk.all ⟨rfl, rfl⟩
  by_cases h2 : p = 132
  · subst h2
    simp (disch := first | omega | (simp only [List.length_append, List.length_cons, List.length_nil]; omega)) only [c32r0, c32r1, c32r2, c32r3, c32r4, c32r5, c32r6, c32r7, go_sem, fill_c, ↓reduceIte, reduceCtorEq, Nat.reduceAdd, Nat.reduceSub, Nat.reducePow, Nat.reduceMul, Nat.reduceEqDiff, Nat.reduceLT, Nat.reduceLeDiff, Int.reduceToNat, Int.reduceLT, Int.reduceLE, Int.reduceEq, Int.reduceNeg, Int.reduceAdd, Int.reduceSub, Int.reduceMul]
    exact FinOk.all ⟨rfl, rfl⟩
  by_cases h3 : p = 17
  · subst h3
    simp (disch := first | omega | (simp only [List.length_append, List.length_cons, List.length_nil]; omega)) only [c32r0, c32r1, c32r2, c32r3, c32r4, c32r5, c32r6, c32r7, go_sem, fill_c, ↓reduceIte, reduceCtorEq, Nat.reduceAdd, Nat.reduceSub, Nat.reducePow, Nat.reduceMul, Nat.reduceEqDiff, Nat.reduceLT, Nat.reduceLeDiff, Int.reduceToNat, Int.reduceLT, Int.reduceLE, Int.reduceEq, Int.reduceNeg, Int.reduceAdd, Int.reduceSub, Int.reduceMul]
    exact FinOk.all ⟨rfl, rfl⟩
  · have e : leastN p = 0 := by simp [leastN, h1, h2, h3]
    rw [e]
    simp (disch := first | omega | (simp only [List.length_append, List.length_cons, List.length_nil]; omega)) only [c32r0, c32r1, c32r2, c32r3, c32r4, c32r5, c32r6, c32r7, h1, h2, h3, go_sem, fill_c, ↓reduceIte, reduceCtorEq, Nat.reduceAdd, Nat.reduceSub, Nat.reducePow, Nat.reduceMul, Nat.reduceEqDiff, Nat.reduceLT, Nat.reduceLeDiff, Int.reduceToNat, Int.reduceLT, Int.reduceLE, Int.reduceEq, Int.reduceNeg, Int.reduceAdd, Int.reduceSub, Int.reduceMul]
    exact FinOk.all ⟨rfl, rfl⟩
/-- Can no packet have a rule? -/
def asksF (r : Ru) : Bool := !(r.slo == 0 && r.shi == 65535) || !(r.dlo == 0 && r.dhi == 65535)
def deadF (r : Ru) : Bool := decide (ruChk r = 0) && (asksF r && (!decide (r.proto = -1) && decide (leastN r.proto = 0)))
theorem rdead_fc (h : Heap) (r : Ru) (ok : r.Ok) : FC Tryd.prog 11 [.agg (ru r)] h fun d h' => d = .bool (deadF r) ∧ h' = h := by
  have lr := ru_len ok
  have fin : ∀ (L : Heap) (x : Bool), deadF r = x → FinOk h (h ++ L) [.bool x] fun d h' => d = .bool (deadF r) ∧ h' = h := by
    rintro L x rfl
    exact FinOk.drop (.inl rfl) rfl ⟨rfl, rfl⟩
  refine FC.goes cf11 ?_; simp only [c11]; simp only [List.length_cons, List.length_nil, Nat.reduceAdd, Nat.reduceSub, List.replicate_succ, List.replicate_zero, List.cons_append, List.nil_append]
  simp (disch := first | omega | (simp only [List.length_append, List.length_cons, List.length_nil]; omega)) only [c11r0, c11r1, lr, ru_one, ru_take, ok, go_sem, fill_c, ↓reduceIte, reduceCtorEq, Nat.reduceAdd, Nat.reduceSub, Nat.reducePow, Nat.reduceMul, Nat.reduceEqDiff, Nat.reduceLT, Nat.reduceLeDiff, Int.reduceToNat, Int.reduceLT, Int.reduceLE, Int.reduceEq, Int.reduceNeg, Int.reduceAdd, Int.reduceSub, Int.reduceMul]
  refine gfc_same (rcheck17_fc _ r ok) ?_
  cases h1 : decide (ruChk r = 0) with
  | false =>
    simp (disch := first | omega | (simp only [List.length_append, List.length_cons, List.length_nil]; omega)) only [h1, go_sem, fill_c, ↓reduceIte, reduceCtorEq, Nat.reduceAdd, Nat.reduceSub, Nat.reducePow, Nat.reduceMul, Nat.reduceEqDiff, Nat.reduceLT, Nat.reduceLeDiff, Int.reduceToNat, Int.reduceLT, Int.reduceLE, Int.reduceEq, Int.reduceNeg, Int.reduceAdd, Int.reduceSub, Int.reduceMul]
    exact fin _ _ (by rw [deadF, h1]; rfl)
  | true =>
    simp (disch := first | omega | (simp only [List.length_append, List.length_cons, List.length_nil]; omega)) only [h1, ru_d36, ru_d38, ruT, ok, go_sem, fill_c, ↓reduceIte, reduceCtorEq, Nat.reduceAdd, Nat.reduceSub, Nat.reducePow, Nat.reduceMul, Nat.reduceEqDiff, Nat.reduceLT, Nat.reduceLeDiff, Int.reduceToNat, Int.reduceLT, Int.reduceLE, Int.reduceEq, Int.reduceNeg, Int.reduceAdd, Int.reduceSub, Int.reduceMul]
    have ha : asksF r = (!(r.slo == 0 && r.shi == 65535) || !(r.dlo == 0 && r.dhi == 65535)) := rfl
    have e : deadF r = (asksF r && (!decide (r.proto = -1) && decide (leastN r.proto = 0))) := by rw [deadF, h1]; rfl
    cases hA : (r.slo == 0 && r.shi == 65535) <;> cases hB : (r.dlo == 0 && r.dhi == 65535)
    all_goals rw [hA, hB] at ha
    all_goals simp (disch := first | omega | (simp only [List.length_append, List.length_cons, List.length_nil]; omega)) only [hA, hB, ru_d36, ru_d38, ru_d40, ruT, ok, Bool.false_and, go_sem, fill_c, ↓reduceIte, reduceCtorEq, Nat.reduceAdd, Nat.reduceSub, Nat.reducePow, Nat.reduceMul, Nat.reduceEqDiff, Nat.reduceLT, Nat.reduceLeDiff, Int.reduceToNat, Int.reduceLT, Int.reduceLE, Int.reduceEq, Int.reduceNeg, Int.reduceAdd, Int.reduceSub, Int.reduceMul]
    all_goals first
      | exact fin _ _ (by rw [e, ha]; rfl)
      | skip
    all_goals
      by_cases hp : r.proto = -1
      · have e0 : decide (r.proto = -1) = true := decide_eq_true hp
        simp (disch := first | omega | (simp only [List.length_append, List.length_cons, List.length_nil]; omega)) only [e0, Bool.false_and, go_sem, fill_c, ↓reduceIte, reduceCtorEq, Nat.reduceAdd, Nat.reduceSub, Nat.reducePow, Nat.reduceMul, Nat.reduceEqDiff, Nat.reduceLT, Nat.reduceLeDiff, Int.reduceToNat, Int.reduceLT, Int.reduceLE, Int.reduceEq, Int.reduceNeg, Int.reduceAdd, Int.reduceSub, Int.reduceMul]
        exact fin _ _ (by rw [e, ha, e0]; rfl)
      · have e0 : decide (r.proto = -1) = false := decide_eq_false hp
        simp (disch := first | omega | (simp only [List.length_append, List.length_cons, List.length_nil]; omega)) only [hp, e0, ru_d40, ruT, ok, go_sem, fill_c, ↓reduceIte, reduceCtorEq, Nat.reduceAdd, Nat.reduceSub, Nat.reducePow, Nat.reduceMul, Nat.reduceEqDiff, Nat.reduceLT, Nat.reduceLeDiff, Int.reduceToNat, Int.reduceLT, Int.reduceLE, Int.reduceEq, Int.reduceNeg, Int.reduceAdd, Int.reduceSub, Int.reduceMul]
        refine gfc_same (rleast_fc _ _) ?_
        simp (disch := first | omega | (simp only [List.length_append, List.length_cons, List.length_nil]; omega)) only [go_sem, fill_c, ↓reduceIte, reduceCtorEq, Nat.reduceAdd, Nat.reduceSub, Nat.reducePow, Nat.reduceMul, Nat.reduceEqDiff, Nat.reduceLT, Nat.reduceLeDiff, Int.reduceToNat, Int.reduceLT, Int.reduceLE, Int.reduceEq, Int.reduceNeg, Int.reduceAdd, Int.reduceSub, Int.reduceMul]
        exact fin _ _ (by rw [e, ha, e0]; rfl)
theorem dead_fc (h : Heap) (r : Ru) (ok : r.Ok) : FC Tryd.prog 10 [.agg (ru r)] h fun d h' => d = .bool (deadF r) ∧ h' = h := by
  have lr := ru_len ok
  have fin : ∀ (L : Heap) (x : Bool), deadF r = x → FinOk h (h ++ L) [.bool x] fun d h' => d = .bool (deadF r) ∧ h' = h := by
    rintro L x rfl
    exact FinOk.drop (.inl rfl) rfl ⟨rfl, rfl⟩
  have ha : asksF r = (!(r.slo == 0 && r.shi == 65535) || !(r.dlo == 0 && r.dhi == 65535)) := rfl
  have e : deadF r = (decide (ruChk r = 0) && (asksF r && (!decide (r.proto = -1) && decide (leastN r.proto = 0)))) := rfl
  cases hA : (r.slo == 0 && r.shi == 65535) <;> cases hB : (r.dlo == 0 && r.dhi == 65535)
  all_goals rw [hA, hB] at ha
  all_goals refine FC.goes cf10 ?_; simp only [c10]; simp only [List.length_cons, List.length_nil, Nat.reduceAdd, Nat.reduceSub, List.replicate_succ, List.replicate_zero, List.cons_append, List.nil_append]
  all_goals simp (disch := first | omega | (simp only [List.length_append, List.length_cons, List.length_nil]; omega)) only [c10r0, c10r1, c10r2, c10r3, lr, ru_one, ru_take, ru_d36, ru_d38, ruT, ok, go_sem, ↓reduceIte, reduceCtorEq, Nat.reduceAdd, Nat.reduceSub, Nat.reducePow, Nat.reduceMul, Nat.reduceEqDiff, Nat.reduceLT, Nat.reduceLeDiff, Int.reduceToNat, Int.reduceLT, Int.reduceLE, Int.reduceEq, Int.reduceNeg, Int.reduceAdd, Int.reduceSub, Int.reduceMul]
  all_goals refine xfc_same (sall_fc _) ?_
  all_goals simp (disch := first | omega | (simp only [List.length_append, List.length_cons, List.length_nil]; omega)) only [hA, hB, lr, ru_one, ru_take, ru_d36, ru_d38, ruT, ok, go_sem, ↓reduceIte, reduceCtorEq, Nat.reduceAdd, Nat.reduceSub, Nat.reducePow, Nat.reduceMul, Nat.reduceEqDiff, Nat.reduceLT, Nat.reduceLeDiff, Int.reduceToNat, Int.reduceLT, Int.reduceLE, Int.reduceEq, Int.reduceNeg, Int.reduceAdd, Int.reduceSub, Int.reduceMul]
  all_goals try (refine xfc_same (sall_fc _) ?_; simp (disch := first | omega | (simp only [List.length_append, List.length_cons, List.length_nil]; omega)) only [hA, hB, lr, ru_one, ru_take, ru_d36, ru_d38, ruT, ok, go_sem, ↓reduceIte, reduceCtorEq, Nat.reduceAdd, Nat.reduceSub, Nat.reducePow, Nat.reduceMul, Nat.reduceEqDiff, Nat.reduceLT, Nat.reduceLeDiff, Int.reduceToNat, Int.reduceLT, Int.reduceLE, Int.reduceEq, Int.reduceNeg, Int.reduceAdd, Int.reduceSub, Int.reduceMul])
  all_goals rw [ru_fill1 ok rfl]
  all_goals simp (disch := first | omega | (simp only [List.length_append, List.length_cons, List.length_nil]; omega)) only [go_sem, fill_c, ↓reduceIte, reduceCtorEq, Nat.reduceAdd, Nat.reduceSub, Nat.reducePow, Nat.reduceMul, Nat.reduceEqDiff, Nat.reduceLT, Nat.reduceLeDiff, Int.reduceToNat, Int.reduceLT, Int.reduceLE, Int.reduceEq, Int.reduceNeg, Int.reduceAdd, Int.reduceSub, Int.reduceMul]
  all_goals refine gfc_same (right_ok_fc _ _ [r] (by simp [ok]) (rus_one ok (by simp (disch := first | omega | (simp only [List.length_append, List.length_cons, List.length_nil]; omega)) only [go_sem, fill_c, ↓reduceIte, reduceCtorEq, Nat.reduceAdd, Nat.reduceSub, Nat.reducePow, Nat.reduceMul, Nat.reduceEqDiff, Nat.reduceLT, Nat.reduceLeDiff, Int.reduceToNat, Int.reduceLT, Int.reduceLE, Int.reduceEq, Int.reduceNeg, Int.reduceAdd, Int.reduceSub, Int.reduceMul])) (by simp)) ?_
  all_goals rw [allOk_one]
  all_goals cases h1 : decide (ruChk r = 0)
  all_goals simp (disch := first | omega | (simp only [List.length_append, List.length_cons, List.length_nil]; omega)) only [h1, ru_d40, ruT, ok, Bool.false_and, go_sem, fill_c, ↓reduceIte, reduceCtorEq, Nat.reduceAdd, Nat.reduceSub, Nat.reducePow, Nat.reduceMul, Nat.reduceEqDiff, Nat.reduceLT, Nat.reduceLeDiff, Int.reduceToNat, Int.reduceLT, Int.reduceLE, Int.reduceEq, Int.reduceNeg, Int.reduceAdd, Int.reduceSub, Int.reduceMul]
  all_goals first
    | exact fin _ _ (by rw [e, ha, h1]; rfl)
    | skip
  all_goals
    by_cases hp : r.proto = -1
    · have e0 : decide (r.proto = -1) = true := decide_eq_true hp
      simp (disch := first | omega | (simp only [List.length_append, List.length_cons, List.length_nil]; omega)) only [e0, Bool.false_and, go_sem, fill_c, ↓reduceIte, reduceCtorEq, Nat.reduceAdd, Nat.reduceSub, Nat.reducePow, Nat.reduceMul, Nat.reduceEqDiff, Nat.reduceLT, Nat.reduceLeDiff, Int.reduceToNat, Int.reduceLT, Int.reduceLE, Int.reduceEq, Int.reduceNeg, Int.reduceAdd, Int.reduceSub, Int.reduceMul]
      exact fin _ _ (by rw [e, ha, h1, e0]; rfl)
    · have e0 : decide (r.proto = -1) = false := decide_eq_false hp
      simp (disch := first | omega | (simp only [List.length_append, List.length_cons, List.length_nil]; omega)) only [hp, e0, ru_d40, ruT, ok, go_sem, fill_c, ↓reduceIte, reduceCtorEq, Nat.reduceAdd, Nat.reduceSub, Nat.reducePow, Nat.reduceMul, Nat.reduceEqDiff, Nat.reduceLT, Nat.reduceLeDiff, Int.reduceToNat, Int.reduceLT, Int.reduceLE, Int.reduceEq, Int.reduceNeg, Int.reduceAdd, Int.reduceSub, Int.reduceMul]
      refine gfc_same (least_fc _ _) ?_
      simp (disch := first | omega | (simp only [List.length_append, List.length_cons, List.length_nil]; omega)) only [go_sem, fill_c, ↓reduceIte, reduceCtorEq, Nat.reduceAdd, Nat.reduceSub, Nat.reducePow, Nat.reduceMul, Nat.reduceEqDiff, Nat.reduceLT, Nat.reduceLeDiff, Int.reduceToNat, Int.reduceLT, Int.reduceLE, Int.reduceEq, Int.reduceNeg, Int.reduceAdd, Int.reduceSub, Int.reduceMul]
      exact fin _ _ (by rw [e, ha, h1, e0]; rfl)
end Go.Proofs
