import Derived.Test.YtodlpcoffmnmbaaMj
import Derived.Test.YtodlpcoffmnmbaaVw
/-
  Own work. Rules read from data: answers for closed runs. What must be whatever is asked: live of layer 23.
-/
namespace Go.Proofs.L23
open Go Go.Ytodlpcoffmnmbaa Go.Proofs
set_option linter.unusedVariables false
set_option linter.unusedSimpArgs false
set_option maxRecDepth 10000

/-! ### weighbridge/shadow.Covers, params 2 -/
def c9r0 : List AStm := [.op (some 2) none (.box (.t 0)),
    .op (some 3) none (.box (.t 1)),
    .op (some 4) none (.mv (.c (.bool false)))]
def c9r1 : List AStm := [.op (some 6) none (.load (some 43) (.t 2)),
    .op (some 7) none (.load (some 43) (.t 3)),
    .op (some 8) none (.bslice 43 [(.int .i64 0), (.int .u8 0), (.int .u8 0), (.int .u8 0), (.int .u8 0), (.int .u8 0), (.int .u8 0), (.int .u8 0), (.int .u8 0), (.int .u8 0), (.int .u8 0), (.int .u8 0), (.int .u8 0), (.int .u8 0), (.int .u8 0), (.int .u8 0), (.int .u8 0), (.int .i64 0), (.int .i64 0), (.int .u8 0), (.int .u8 0), (.int .u8 0), (.int .u8 0), (.int .u8 0), (.int .u8 0), (.int .u8 0), (.int .u8 0), (.int .u8 0), (.int .u8 0), (.int .u8 0), (.int .u8 0), (.int .u8 0), (.int .u8 0), (.int .u8 0), (.int .u8 0), (.int .i64 0), (.int .i64 0), (.int .i64 0), (.int .i64 0), (.int .i64 0), (.int .i64 0), (.int .i64 0), (.int .i64 0), (.int .i64 0), (.int .u8 0), (.int .u8 0), (.int .u8 0), (.int .u8 0), (.int .u8 0), (.int .u8 0), (.int .u8 0), (.int .u8 0), (.int .u8 0), (.int .u8 0), (.int .u8 0), (.int .u8 0), (.int .u8 0), (.int .u8 0), (.int .u8 0), (.int .u8 0), (.int .i64 0), (.int .i64 0), (.int .u8 0), (.int .u8 0), (.int .u8 0), (.int .u8 0), (.int .u8 0), (.int .u8 0), (.int .u8 0), (.int .u8 0), (.int .u8 0), (.int .u8 0), (.int .u8 0), (.int .u8 0), (.int .u8 0), (.int .u8 0), (.int .u8 0), (.int .u8 0), (.int .i64 0), (.int .i64 0), (.int .i64 0), (.int .i64 0), (.int .i64 0), (.int .i64 0), (.int .i64 0), (.int .i64 0)] 2 [(0, 43, (.t 6)), (43, 43, (.t 7))]),
    .call (some 9) none (.c (.fn (.func 38) [] [])) [(.t 8)],
    .op (some 10) none (.un .not (.t 9)),
    .op (some 11) none (.mv (.t 10)),
    .op (some 12) (some (11, false)) (.faddr 0 (.t 3)),
    .op (some 13) (some (11, false)) (.load (some 18) (.t 12)),
    .op (some 14) (some (11, false)) (.faddr 0 (.t 2)),
    .op (some 15) (some (11, false)) (.load (some 18) (.t 14)),
    .call (some 16) (some (11, false)) (.c (.fn (.func 29) [] [])) [(.t 13), (.t 15)],
    .op (some 17) (some (11, false)) (.un .not (.t 16)),
    .op (some 18) none (.pick (.t 11) (.c (.bool true)) (.t 17)),
    .op (some 19) none (.mv (.t 18)),
    .op (some 20) (some (19, false)) (.faddr 18 (.t 3)),
    .op (some 21) (some (19, false)) (.load (some 18) (.t 20)),
    .op (some 22) (some (19, false)) (.faddr 18 (.t 2)),
    .op (some 23) (some (19, false)) (.load (some 18) (.t 22)),
    .call (some 24) (some (19, false)) (.c (.fn (.func 29) [] [])) [(.t 21), (.t 23)],
    .op (some 25) (some (19, false)) (.un .not (.t 24)),
    .op (some 26) none (.pick (.t 19) (.c (.bool true)) (.t 25))]
def c9r2 : List AStm := [.op (some 4) none (.mv (.c (.bool false)))]
def c9r3 : List AStm := [.op (some 5) none (.mv (.c (.fn (.func 39) [] [])))]
def c9r4 : List AStm := [.op (some 27) none (.faddr 36 (.t 2)),
    .op (some 28) none (.load (some 2) (.t 27)),
    .op (some 29) none (.faddr 36 (.t 3)),
    .op (some 30) none (.load (some 2) (.t 29)),
    .call (some 31) none (.c (.fn (.func 40) [] [])) [(.t 28), (.t 30)],
    .op (some 32) none (.mv (.t 31)),
    .op (some 33) (some (32, true)) (.faddr 38 (.t 2)),
    .op (some 34) (some (32, true)) (.load (some 2) (.t 33)),
    .op (some 35) (some (32, true)) (.faddr 38 (.t 3)),
    .op (some 36) (some (32, true)) (.load (some 2) (.t 35)),
    .call (some 37) (some (32, true)) (.c (.fn (.func 40) [] [])) [(.t 34), (.t 36)],
    .op (some 38) none (.pick (.t 32) (.t 37) (.c (.bool false))),
    .op (some 39) none (.mv (.t 38)),
    .op (some 40) (some (39, true)) (.mv (.t 5)),
    .op (some 41) (some (39, true)) (.faddr 40 (.t 2)),
    .op (some 42) (some (39, true)) (.load none (.t 41)),
    .op (some 43) (some (39, true)) (.faddr 40 (.t 3)),
    .op (some 44) (some (39, true)) (.load none (.t 43)),
    .call (some 45) (some (39, true)) (.t 40) [(.t 42), (.t 44)],
    .op (some 46) none (.pick (.t 39) (.t 45) (.c (.bool false))),
    .op (some 47) none (.mv (.t 46)),
    .op (some 48) (some (47, true)) (.mv (.t 5)),
    .op (some 49) (some (47, true)) (.faddr 41 (.t 2)),
    .op (some 50) (some (47, true)) (.load none (.t 49)),
    .op (some 51) (some (47, true)) (.faddr 41 (.t 3)),
    .op (some 52) (some (47, true)) (.load none (.t 51)),
    .call (some 53) (some (47, true)) (.t 48) [(.t 50), (.t 52)],
    .op (some 54) none (.pick (.t 47) (.t 53) (.c (.bool false))),
    .op (some 4) none (.mv (.t 54))]
def c9 : CF := ⟨.seq (.reg c9r0) (.seq (.seq (.reg c9r1) (.cond (.t 26) (.seq (.reg c9r2) (.ret)) (.skip))) (.seq (.reg c9r3) (.seq (.reg c9r4) (.ret)))), [.tmp 4], 55⟩
theorem cf9 : cfun Try.prog 9 = some c9 := by kernel_rfl

/-! ### weighbridge/shadow.Meets, params 2 -/
def c10r0 : List AStm := [.op (some 2) none (.box (.t 0)),
    .op (some 3) none (.box (.t 1)),
    .op (some 4) none (.mv (.c (.bool false)))]
def c10r1 : List AStm := [.op (some 8) none (.load (some 43) (.t 2)),
    .op (some 9) none (.load (some 43) (.t 3)),
    .call (some 10) none (.c (.fn (.func 11) [] [])) [(.t 8), (.t 9)],
    .op (some 7) none (.mv (.t 10)),
    .op (some 11) none (.ext (.t 7) 0),
    .op (some 12) none (.ext (.t 7) 1),
    .op (some 5) none (.alloc [(.int .i64 0), (.int .u8 0), (.int .u8 0), (.int .u8 0), (.int .u8 0), (.int .u8 0), (.int .u8 0), (.int .u8 0), (.int .u8 0), (.int .u8 0), (.int .u8 0), (.int .u8 0), (.int .u8 0), (.int .u8 0), (.int .u8 0), (.int .u8 0), (.int .u8 0), (.int .u8 0), (.int .u8 0), (.int .u8 0), (.int .u8 0), (.int .u8 0), (.int .u8 0), (.int .u8 0), (.int .u8 0), (.int .u8 0), (.int .u8 0), (.int .u8 0), (.int .u8 0), (.int .u8 0), (.int .u8 0), (.int .u8 0), (.int .u8 0), (.int .i64 0), (.int .i64 0), (.bool false), (.int .i64 0), (.int .i64 0)]),
    .op none none (.store 38 (.t 5) (.t 11)),
    .op (some 6) none (.mv (.t 12))]
def c10r2 : List AStm := [.op (some 13) none (.mv (.t 6)),
    .op (some 4) none (.mv (.t 13))]
def c10 : CF := ⟨.seq (.reg c10r0) (.seq (.reg c10r1) (.seq (.reg c10r2) (.ret))), [.tmp 4], 14⟩
theorem cf10 : cfun Try.prog 10 = some c10 := by kernel_rfl

/-! ### weighbridge/shadow.Witness, params 2 -/
def c11r0 : List AStm := [.op (some 2) none (.box (.t 0)),
    .op (some 3) none (.box (.t 1)),
    .op (some 4) none (.alloc [(.int .i64 0), (.int .u8 0), (.int .u8 0), (.int .u8 0), (.int .u8 0), (.int .u8 0), (.int .u8 0), (.int .u8 0), (.int .u8 0), (.int .u8 0), (.int .u8 0), (.int .u8 0), (.int .u8 0), (.int .u8 0), (.int .u8 0), (.int .u8 0), (.int .u8 0), (.int .u8 0), (.int .u8 0), (.int .u8 0), (.int .u8 0), (.int .u8 0), (.int .u8 0), (.int .u8 0), (.int .u8 0), (.int .u8 0), (.int .u8 0), (.int .u8 0), (.int .u8 0), (.int .u8 0), (.int .u8 0), (.int .u8 0), (.int .u8 0), (.int .i64 0), (.int .i64 0), (.bool false), (.int .i64 0), (.int .i64 0)]),
    .op (some 5) none (.mv (.c (.bool false)))]
def c11r1 : List AStm := [.op (some 8) none (.load (some 43) (.t 2)),
    .op (some 9) none (.load (some 43) (.t 3)),
    .op (some 10) none (.bslice 43 [(.int .i64 0), (.int .u8 0), (.int .u8 0), (.int .u8 0), (.int .u8 0), (.int .u8 0), (.int .u8 0), (.int .u8 0), (.int .u8 0), (.int .u8 0), (.int .u8 0), (.int .u8 0), (.int .u8 0), (.int .u8 0), (.int .u8 0), (.int .u8 0), (.int .u8 0), (.int .i64 0), (.int .i64 0), (.int .u8 0), (.int .u8 0), (.int .u8 0), (.int .u8 0), (.int .u8 0), (.int .u8 0), (.int .u8 0), (.int .u8 0), (.int .u8 0), (.int .u8 0), (.int .u8 0), (.int .u8 0), (.int .u8 0), (.int .u8 0), (.int .u8 0), (.int .u8 0), (.int .i64 0), (.int .i64 0), (.int .i64 0), (.int .i64 0), (.int .i64 0), (.int .i64 0), (.int .i64 0), (.int .i64 0), (.int .i64 0), (.int .u8 0), (.int .u8 0), (.int .u8 0), (.int .u8 0), (.int .u8 0), (.int .u8 0), (.int .u8 0), (.int .u8 0), (.int .u8 0), (.int .u8 0), (.int .u8 0), (.int .u8 0), (.int .u8 0), (.int .u8 0), (.int .u8 0), (.int .u8 0), (.int .i64 0), (.int .i64 0), (.int .u8 0), (.int .u8 0), (.int .u8 0), (.int .u8 0), (.int .u8 0), (.int .u8 0), (.int .u8 0), (.int .u8 0), (.int .u8 0), (.int .u8 0), (.int .u8 0), (.int .u8 0), (.int .u8 0), (.int .u8 0), (.int .u8 0), (.int .u8 0), (.int .i64 0), (.int .i64 0), (.int .i64 0), (.int .i64 0), (.int .i64 0), (.int .i64 0), (.int .i64 0), (.int .i64 0)] 2 [(0, 43, (.t 8)), (43, 43, (.t 9))]),
    .call (some 11) none (.c (.fn (.func 38) [] [])) [(.t 10)],
    .op (some 12) none (.un .not (.t 11))]
def c11r2 : List AStm := [.op (some 13) none (.build [(.int .i64 0), (.int .u8 0), (.int .u8 0), (.int .u8 0), (.int .u8 0), (.int .u8 0), (.int .u8 0), (.int .u8 0), (.int .u8 0), (.int .u8 0), (.int .u8 0), (.int .u8 0), (.int .u8 0), (.int .u8 0), (.int .u8 0), (.int .u8 0), (.int .u8 0), (.int .u8 0), (.int .u8 0), (.int .u8 0), (.int .u8 0), (.int .u8 0), (.int .u8 0), (.int .u8 0), (.int .u8 0), (.int .u8 0), (.int .u8 0), (.int .u8 0), (.int .u8 0), (.int .u8 0), (.int .u8 0), (.int .u8 0), (.int .u8 0), (.int .i64 0), (.int .i64 0), (.bool false), (.int .i64 0), (.int .i64 0)] []),
    .op none none (.store 38 (.t 4) (.t 13)),
    .op (some 5) none (.mv (.c (.bool false)))]
def c11r3 : List AStm := [.op (some 6) none (.alloc [(.bool false)])]
def c11r4 : List AStm := [.op (some 14) none (.faddr 0 (.t 2)),
    .op (some 15) none (.faddr 0 (.t 14)),
    .op (some 16) none (.load none (.t 15)),
    .op (some 17) none (.faddr 0 (.t 2)),
    .op (some 18) none (.load (some 18) (.t 17)),
    .op (some 19) none (.faddr 0 (.t 3)),
    .op (some 20) none (.load (some 18) (.t 19)),
    .op (some 22) none (.faddr 18 (.t 2)),
    .op (some 23) none (.load (some 18) (.t 22)),
    .op (some 24) none (.faddr 18 (.t 3)),
    .op (some 25) none (.load (some 18) (.t 24)),
    .op (some 27) none (.faddr 36 (.t 2)),
    .op (some 28) none (.load (some 2) (.t 27)),
    .op (some 29) none (.faddr 36 (.t 3)),
    .op (some 30) none (.load (some 2) (.t 29)),
    .op (some 32) none (.faddr 38 (.t 2)),
    .op (some 33) none (.load (some 2) (.t 32)),
    .op (some 34) none (.faddr 38 (.t 3)),
    .op (some 35) none (.load (some 2) (.t 34)),
    .op (some 37) none (.faddr 40 (.t 2)),
    .op (some 38) none (.load none (.t 37)),
    .op (some 39) none (.faddr 40 (.t 3)),
    .op (some 40) none (.load none (.t 39)),
    .op (some 42) none (.faddr 41 (.t 2)),
    .op (some 43) none (.load none (.t 42)),
    .op (some 44) none (.faddr 41 (.t 3)),
    .op (some 45) none (.load none (.t 44)),
    .callW (some 21) (.c (.fn (.func 41) [] [])) [(.t 6), (.t 18), (.t 20)],
    .chk 14 none (.faddr 0 (.t 2)),
    .chk 15 none (.faddr 0 (.t 14)),
    .chk 16 none (.load none (.t 15)),
    .chk 22 none (.faddr 18 (.t 2)),
    .chk 23 none (.load (some 18) (.t 22)),
    .chk 24 none (.faddr 18 (.t 3)),
    .chk 25 none (.load (some 18) (.t 24)),
    .chk 27 none (.faddr 36 (.t 2)),
    .chk 28 none (.load (some 2) (.t 27)),
    .chk 29 none (.faddr 36 (.t 3)),
    .chk 30 none (.load (some 2) (.t 29)),
    .chk 32 none (.faddr 38 (.t 2)),
    .chk 33 none (.load (some 2) (.t 32)),
    .chk 34 none (.faddr 38 (.t 3)),
    .chk 35 none (.load (some 2) (.t 34)),
    .chk 37 none (.faddr 40 (.t 2)),
    .chk 38 none (.load none (.t 37)),
    .chk 39 none (.faddr 40 (.t 3)),
    .chk 40 none (.load none (.t 39)),
    .chk 42 none (.faddr 41 (.t 2)),
    .chk 43 none (.load none (.t 42)),
    .chk 44 none (.faddr 41 (.t 3)),
    .chk 45 none (.load none (.t 44)),
    .callW (some 26) (.c (.fn (.func 41) [] [])) [(.t 6), (.t 23), (.t 25)],
    .chk 14 none (.faddr 0 (.t 2)),
    .chk 15 none (.faddr 0 (.t 14)),
    .chk 16 none (.load none (.t 15)),
    .chk 27 none (.faddr 36 (.t 2)),
    .chk 28 none (.load (some 2) (.t 27)),
    .chk 29 none (.faddr 36 (.t 3)),
    .chk 30 none (.load (some 2) (.t 29)),
    .chk 32 none (.faddr 38 (.t 2)),
    .chk 33 none (.load (some 2) (.t 32)),
    .chk 34 none (.faddr 38 (.t 3)),
    .chk 35 none (.load (some 2) (.t 34)),
    .chk 37 none (.faddr 40 (.t 2)),
    .chk 38 none (.load none (.t 37)),
    .chk 39 none (.faddr 40 (.t 3)),
    .chk 40 none (.load none (.t 39)),
    .chk 42 none (.faddr 41 (.t 2)),
    .chk 43 none (.load none (.t 42)),
    .chk 44 none (.faddr 41 (.t 3)),
    .chk 45 none (.load none (.t 44)),
    .callW (some 31) (.c (.fn (.func 42) [] [])) [(.t 6), (.t 28), (.t 30)],
    .chk 14 none (.faddr 0 (.t 2)),
    .chk 15 none (.faddr 0 (.t 14)),
    .chk 16 none (.load none (.t 15)),
    .chk 32 none (.faddr 38 (.t 2)),
    .chk 33 none (.load (some 2) (.t 32)),
    .chk 34 none (.faddr 38 (.t 3)),
    .chk 35 none (.load (some 2) (.t 34)),
    .chk 37 none (.faddr 40 (.t 2)),
    .chk 38 none (.load none (.t 37)),
    .chk 39 none (.faddr 40 (.t 3)),
    .chk 40 none (.load none (.t 39)),
    .chk 42 none (.faddr 41 (.t 2)),
    .chk 43 none (.load none (.t 42)),
    .chk 44 none (.faddr 41 (.t 3)),
    .chk 45 none (.load none (.t 44)),
    .callW (some 36) (.c (.fn (.func 42) [] [])) [(.t 6), (.t 33), (.t 35)],
    .chk 14 none (.faddr 0 (.t 2)),
    .chk 15 none (.faddr 0 (.t 14)),
    .chk 16 none (.load none (.t 15)),
    .chk 37 none (.faddr 40 (.t 2)),
    .chk 38 none (.load none (.t 37)),
    .chk 39 none (.faddr 40 (.t 3)),
    .chk 40 none (.load none (.t 39)),
    .chk 42 none (.faddr 41 (.t 2)),
    .chk 43 none (.load none (.t 42)),
    .chk 44 none (.faddr 41 (.t 3)),
    .chk 45 none (.load none (.t 44)),
    .callW (some 41) (.c (.fn (.func 43) [] [])) [(.t 6), (.t 38), (.t 40), (.c (.int .i64 6))],
    .chk 14 none (.faddr 0 (.t 2)),
    .chk 15 none (.faddr 0 (.t 14)),
    .chk 16 none (.load none (.t 15)),
    .chk 42 none (.faddr 41 (.t 2)),
    .chk 43 none (.load none (.t 42)),
    .chk 44 none (.faddr 41 (.t 3)),
    .chk 45 none (.load none (.t 44)),
    .callW (some 46) (.c (.fn (.func 43) [] [])) [(.t 6), (.t 43), (.t 45), (.c (.int .i64 0))],
    .chk 14 none (.faddr 0 (.t 2)),
    .chk 15 none (.faddr 0 (.t 14)),
    .chk 16 none (.load none (.t 15)),
    .op (some 47) none (.build [(.int .i64 0), (.int .u8 0), (.int .u8 0), (.int .u8 0), (.int .u8 0), (.int .u8 0), (.int .u8 0), (.int .u8 0), (.int .u8 0), (.int .u8 0), (.int .u8 0), (.int .u8 0), (.int .u8 0), (.int .u8 0), (.int .u8 0), (.int .u8 0), (.int .u8 0), (.int .u8 0), (.int .u8 0), (.int .u8 0), (.int .u8 0), (.int .u8 0), (.int .u8 0), (.int .u8 0), (.int .u8 0), (.int .u8 0), (.int .u8 0), (.int .u8 0), (.int .u8 0), (.int .u8 0), (.int .u8 0), (.int .u8 0), (.int .u8 0), (.int .i64 0), (.int .i64 0), (.bool false), (.int .i64 0), (.int .i64 0)] [(0, 1, (.t 16)), (1, 16, (.t 21)), (17, 16, (.t 26)), (35, 1, (.c (.bool true))), (36, 1, (.t 31)), (37, 1, (.t 36)), (33, 1, (.t 41)), (34, 1, (.t 46))]),
    .op (some 7) none (.alloc [(.int .i64 0), (.int .u8 0), (.int .u8 0), (.int .u8 0), (.int .u8 0), (.int .u8 0), (.int .u8 0), (.int .u8 0), (.int .u8 0), (.int .u8 0), (.int .u8 0), (.int .u8 0), (.int .u8 0), (.int .u8 0), (.int .u8 0), (.int .u8 0), (.int .u8 0), (.int .u8 0), (.int .u8 0), (.int .u8 0), (.int .u8 0), (.int .u8 0), (.int .u8 0), (.int .u8 0), (.int .u8 0), (.int .u8 0), (.int .u8 0), (.int .u8 0), (.int .u8 0), (.int .u8 0), (.int .u8 0), (.int .u8 0), (.int .u8 0), (.int .i64 0), (.int .i64 0), (.bool false), (.int .i64 0), (.int .i64 0)])]
def c11r5 : List AStm := [.op none none (.store 38 (.t 7) (.t 47))]
def c11r6 : List AStm := [.op (some 48) none (.faddr 0 (.t 6)),
    .op (some 49) none (.load none (.t 48))]
def c11r7 : List AStm := [.op (some 50) none (.build [(.int .i64 0), (.int .u8 0), (.int .u8 0), (.int .u8 0), (.int .u8 0), (.int .u8 0), (.int .u8 0), (.int .u8 0), (.int .u8 0), (.int .u8 0), (.int .u8 0), (.int .u8 0), (.int .u8 0), (.int .u8 0), (.int .u8 0), (.int .u8 0), (.int .u8 0), (.int .u8 0), (.int .u8 0), (.int .u8 0), (.int .u8 0), (.int .u8 0), (.int .u8 0), (.int .u8 0), (.int .u8 0), (.int .u8 0), (.int .u8 0), (.int .u8 0), (.int .u8 0), (.int .u8 0), (.int .u8 0), (.int .u8 0), (.int .u8 0), (.int .i64 0), (.int .i64 0), (.bool false), (.int .i64 0), (.int .i64 0)] []),
    .op none none (.store 38 (.t 4) (.t 50)),
    .op (some 5) none (.mv (.c (.bool false)))]
def c11r8 : List AStm := [.op (some 51) none (.load (some 38) (.t 7)),
    .op none none (.store 38 (.t 4) (.t 51)),
    .op (some 5) none (.mv (.c (.bool true)))]
def c11 : CF := ⟨.seq (.reg c11r0) (.seq (.seq (.reg c11r1) (.cond (.t 12) (.seq (.reg c11r2) (.ret)) (.skip))) (.seq (.reg c11r3) (.seq (.dreg c11r4 c11r5) (.seq (.seq (.reg c11r6) (.cond (.t 49) (.seq (.reg c11r7) (.ret)) (.skip))) (.seq (.reg c11r8) (.ret)))))), [.cell 4 (some 38), .tmp 5], 52⟩
theorem cf11 : cfun Try.prog 11 = some c11 := by kernel_rfl

/-! ### weighbridge/weighbridgelaw23.live, params 0 -/
def c12r0 : List AStm := [.op (some 0) none (.mv (.c (.bool false)))]
def c12r1 : List AStm := [.call (some 14) none (.c (.fn (.func 16) [] [])) [(.c (.int .i64 4)), (.c (.int .i64 1))],
    .call (some 15) none (.c (.fn (.func 16) [] [])) [(.c (.int .i64 4)), (.c (.int .i64 2))],
    .op (some 1) none (.alloc [(.int .i64 0), (.int .u8 0), (.int .u8 0), (.int .u8 0), (.int .u8 0), (.int .u8 0), (.int .u8 0), (.int .u8 0), (.int .u8 0), (.int .u8 0), (.int .u8 0), (.int .u8 0), (.int .u8 0), (.int .u8 0), (.int .u8 0), (.int .u8 0), (.int .u8 0), (.int .i64 0), (.int .i64 0), (.int .u8 0), (.int .u8 0), (.int .u8 0), (.int .u8 0), (.int .u8 0), (.int .u8 0), (.int .u8 0), (.int .u8 0), (.int .u8 0), (.int .u8 0), (.int .u8 0), (.int .u8 0), (.int .u8 0), (.int .u8 0), (.int .u8 0), (.int .u8 0), (.int .i64 0), (.int .i64 0), (.int .i64 0), (.int .i64 0), (.int .i64 0), (.int .i64 0), (.int .i64 0), (.int .i64 0)]),
    .op (some 2) none (.alloc [(.int .i64 0), (.int .u8 0), (.int .u8 0), (.int .u8 0), (.int .u8 0), (.int .u8 0), (.int .u8 0), (.int .u8 0), (.int .u8 0), (.int .u8 0), (.int .u8 0), (.int .u8 0), (.int .u8 0), (.int .u8 0), (.int .u8 0), (.int .u8 0), (.int .u8 0), (.int .i64 0), (.int .i64 0), (.int .u8 0), (.int .u8 0), (.int .u8 0), (.int .u8 0), (.int .u8 0), (.int .u8 0), (.int .u8 0), (.int .u8 0), (.int .u8 0), (.int .u8 0), (.int .u8 0), (.int .u8 0), (.int .u8 0), (.int .u8 0), (.int .u8 0), (.int .u8 0), (.int .i64 0), (.int .i64 0), (.int .i64 0), (.int .i64 0), (.int .i64 0), (.int .i64 0), (.int .i64 0), (.int .i64 0)]),
    .op none none (.store 43 (.t 1) (.t 14)),
    .op none none (.store 43 (.t 2) (.t 15))]
def c12r2 : List AStm := [.op (some 16) none (.build [(.int .i64 0), (.int .i64 0)] [(0, 1, (.c (.int .i64 53))), (1, 1, (.c (.int .i64 53)))]),
    .op (some 17) none (.faddr 38 (.t 2)),
    .op none none (.store 2 (.t 17) (.t 16))]
def c12r3 : List AStm := [.op (some 18) none (.load (some 43) (.t 2)),
    .op (some 3) none (.alloc [(.int .i64 0), (.int .u8 0), (.int .u8 0), (.int .u8 0), (.int .u8 0), (.int .u8 0), (.int .u8 0), (.int .u8 0), (.int .u8 0), (.int .u8 0), (.int .u8 0), (.int .u8 0), (.int .u8 0), (.int .u8 0), (.int .u8 0), (.int .u8 0), (.int .u8 0), (.int .i64 0), (.int .i64 0), (.int .u8 0), (.int .u8 0), (.int .u8 0), (.int .u8 0), (.int .u8 0), (.int .u8 0), (.int .u8 0), (.int .u8 0), (.int .u8 0), (.int .u8 0), (.int .u8 0), (.int .u8 0), (.int .u8 0), (.int .u8 0), (.int .u8 0), (.int .u8 0), (.int .i64 0), (.int .i64 0), (.int .i64 0), (.int .i64 0), (.int .i64 0), (.int .i64 0), (.int .i64 0), (.int .i64 0)]),
    .op none none (.store 43 (.t 3) (.t 18))]
def c12r4 : List AStm := [.op (some 19) none (.faddr 40 (.t 3)),
    .op none none (.store 1 (.t 19) (.c (.int .i64 1)))]
def c12r5 : List AStm := [.op (some 21) none (.load (some 43) (.t 1)),
    .op (some 22) none (.load (some 43) (.t 2)),
    .call (some 23) none (.c (.fn (.func 11) [] [])) [(.t 21), (.t 22)],
    .op (some 20) none (.mv (.t 23)),
    .op (some 24) none (.ext (.t 20) 0),
    .op (some 25) none (.ext (.t 20) 1),
    .op (some 4) none (.alloc [(.int .i64 0), (.int .u8 0), (.int .u8 0), (.int .u8 0), (.int .u8 0), (.int .u8 0), (.int .u8 0), (.int .u8 0), (.int .u8 0), (.int .u8 0), (.int .u8 0), (.int .u8 0), (.int .u8 0), (.int .u8 0), (.int .u8 0), (.int .u8 0), (.int .u8 0), (.int .u8 0), (.int .u8 0), (.int .u8 0), (.int .u8 0), (.int .u8 0), (.int .u8 0), (.int .u8 0), (.int .u8 0), (.int .u8 0), (.int .u8 0), (.int .u8 0), (.int .u8 0), (.int .u8 0), (.int .u8 0), (.int .u8 0), (.int .u8 0), (.int .i64 0), (.int .i64 0), (.bool false), (.int .i64 0), (.int .i64 0)]),
    .op none none (.store 38 (.t 4) (.t 24)),
    .op (some 5) none (.mv (.t 25))]
def c12r6 : List AStm := [.op (some 27) none (.load (some 43) (.t 1)),
    .callL (some 28) none (.c (.fn (.func 16) [] [])) [(.c (.int .i64 6)), (.c (.int .i64 1))],
    .callL (some 29) none (.c (.fn (.func 11) [] [])) [(.t 27), (.t 28)],
    .op (some 26) none (.mv (.t 29)),
    .op (some 30) none (.ext (.t 26) 0),
    .op (some 31) none (.ext (.t 26) 1),
    .op (some 6) none (.alloc [(.int .i64 0), (.int .u8 0), (.int .u8 0), (.int .u8 0), (.int .u8 0), (.int .u8 0), (.int .u8 0), (.int .u8 0), (.int .u8 0), (.int .u8 0), (.int .u8 0), (.int .u8 0), (.int .u8 0), (.int .u8 0), (.int .u8 0), (.int .u8 0), (.int .u8 0), (.int .u8 0), (.int .u8 0), (.int .u8 0), (.int .u8 0), (.int .u8 0), (.int .u8 0), (.int .u8 0), (.int .u8 0), (.int .u8 0), (.int .u8 0), (.int .u8 0), (.int .u8 0), (.int .u8 0), (.int .u8 0), (.int .u8 0), (.int .u8 0), (.int .i64 0), (.int .i64 0), (.bool false), (.int .i64 0), (.int .i64 0)]),
    .op none none (.store 38 (.t 6) (.t 30)),
    .op (some 7) none (.mv (.t 31))]
def c12r7 : List AStm := []
def c12r8 : List AStm := [.op (some 33) none (.load (some 43) (.t 2)),
    .op (some 34) none (.load (some 43) (.t 1)),
    .op (some 35) none (.load (some 43) (.t 3)),
    .op (some 36) none (.load (some 43) (.t 2)),
    .op (some 37) none (.bslice 43 [(.int .i64 0), (.int .u8 0), (.int .u8 0), (.int .u8 0), (.int .u8 0), (.int .u8 0), (.int .u8 0), (.int .u8 0), (.int .u8 0), (.int .u8 0), (.int .u8 0), (.int .u8 0), (.int .u8 0), (.int .u8 0), (.int .u8 0), (.int .u8 0), (.int .u8 0), (.int .i64 0), (.int .i64 0), (.int .u8 0), (.int .u8 0), (.int .u8 0), (.int .u8 0), (.int .u8 0), (.int .u8 0), (.int .u8 0), (.int .u8 0), (.int .u8 0), (.int .u8 0), (.int .u8 0), (.int .u8 0), (.int .u8 0), (.int .u8 0), (.int .u8 0), (.int .u8 0), (.int .i64 0), (.int .i64 0), (.int .i64 0), (.int .i64 0), (.int .i64 0), (.int .i64 0), (.int .i64 0), (.int .i64 0), (.int .i64 0), (.int .u8 0), (.int .u8 0), (.int .u8 0), (.int .u8 0), (.int .u8 0), (.int .u8 0), (.int .u8 0), (.int .u8 0), (.int .u8 0), (.int .u8 0), (.int .u8 0), (.int .u8 0), (.int .u8 0), (.int .u8 0), (.int .u8 0), (.int .u8 0), (.int .i64 0), (.int .i64 0), (.int .u8 0), (.int .u8 0), (.int .u8 0), (.int .u8 0), (.int .u8 0), (.int .u8 0), (.int .u8 0), (.int .u8 0), (.int .u8 0), (.int .u8 0), (.int .u8 0), (.int .u8 0), (.int .u8 0), (.int .u8 0), (.int .u8 0), (.int .u8 0), (.int .i64 0), (.int .i64 0), (.int .i64 0), (.int .i64 0), (.int .i64 0), (.int .i64 0), (.int .i64 0), (.int .i64 0), (.int .i64 0), (.int .u8 0), (.int .u8 0), (.int .u8 0), (.int .u8 0), (.int .u8 0), (.int .u8 0), (.int .u8 0), (.int .u8 0), (.int .u8 0), (.int .u8 0), (.int .u8 0), (.int .u8 0), (.int .u8 0), (.int .u8 0), (.int .u8 0), (.int .u8 0), (.int .i64 0), (.int .i64 0), (.int .u8 0), (.int .u8 0), (.int .u8 0), (.int .u8 0), (.int .u8 0), (.int .u8 0), (.int .u8 0), (.int .u8 0), (.int .u8 0), (.int .u8 0), (.int .u8 0), (.int .u8 0), (.int .u8 0), (.int .u8 0), (.int .u8 0), (.int .u8 0), (.int .i64 0), (.int .i64 0), (.int .i64 0), (.int .i64 0), (.int .i64 0), (.int .i64 0), (.int .i64 0), (.int .i64 0), (.int .i64 0), (.int .u8 0), (.int .u8 0), (.int .u8 0), (.int .u8 0), (.int .u8 0), (.int .u8 0), (.int .u8 0), (.int .u8 0), (.int .u8 0), (.int .u8 0), (.int .u8 0), (.int .u8 0), (.int .u8 0), (.int .u8 0), (.int .u8 0), (.int .u8 0), (.int .i64 0), (.int .i64 0), (.int .u8 0), (.int .u8 0), (.int .u8 0), (.int .u8 0), (.int .u8 0), (.int .u8 0), (.int .u8 0), (.int .u8 0), (.int .u8 0), (.int .u8 0), (.int .u8 0), (.int .u8 0), (.int .u8 0), (.int .u8 0), (.int .u8 0), (.int .u8 0), (.int .i64 0), (.int .i64 0), (.int .i64 0), (.int .i64 0), (.int .i64 0), (.int .i64 0), (.int .i64 0), (.int .i64 0)] 4 [(0, 43, (.t 33)), (43, 43, (.t 34)), (86, 43, (.t 35)), (129, 43, (.t 36))]),
    .call (some 38) none (.c (.fn (.func 44) [] [])) [(.t 37)],
    .op (some 32) none (.mv (.t 38)),
    .op (some 39) none (.ext (.t 32) 0),
    .op (some 40) none (.ext (.t 32) 1),
    .op (some 9) none (.alloc [(.int .i64 0), (.int .i64 0)]),
    .op (some 8) none (.mv (.t 39)),
    .op none none (.store 2 (.t 9) (.t 40))]
def c12r9 : List AStm := [.op (some 42) none (.load (some 43) (.t 2)),
    .op (some 43) none (.load (some 43) (.t 1)),
    .op (some 44) none (.load (some 43) (.t 3)),
    .op (some 45) none (.load (some 43) (.t 2)),
    .op (some 46) none (.bslice 43 [(.int .i64 0), (.int .u8 0), (.int .u8 0), (.int .u8 0), (.int .u8 0), (.int .u8 0), (.int .u8 0), (.int .u8 0), (.int .u8 0), (.int .u8 0), (.int .u8 0), (.int .u8 0), (.int .u8 0), (.int .u8 0), (.int .u8 0), (.int .u8 0), (.int .u8 0), (.int .i64 0), (.int .i64 0), (.int .u8 0), (.int .u8 0), (.int .u8 0), (.int .u8 0), (.int .u8 0), (.int .u8 0), (.int .u8 0), (.int .u8 0), (.int .u8 0), (.int .u8 0), (.int .u8 0), (.int .u8 0), (.int .u8 0), (.int .u8 0), (.int .u8 0), (.int .u8 0), (.int .i64 0), (.int .i64 0), (.int .i64 0), (.int .i64 0), (.int .i64 0), (.int .i64 0), (.int .i64 0), (.int .i64 0), (.int .i64 0), (.int .u8 0), (.int .u8 0), (.int .u8 0), (.int .u8 0), (.int .u8 0), (.int .u8 0), (.int .u8 0), (.int .u8 0), (.int .u8 0), (.int .u8 0), (.int .u8 0), (.int .u8 0), (.int .u8 0), (.int .u8 0), (.int .u8 0), (.int .u8 0), (.int .i64 0), (.int .i64 0), (.int .u8 0), (.int .u8 0), (.int .u8 0), (.int .u8 0), (.int .u8 0), (.int .u8 0), (.int .u8 0), (.int .u8 0), (.int .u8 0), (.int .u8 0), (.int .u8 0), (.int .u8 0), (.int .u8 0), (.int .u8 0), (.int .u8 0), (.int .u8 0), (.int .i64 0), (.int .i64 0), (.int .i64 0), (.int .i64 0), (.int .i64 0), (.int .i64 0), (.int .i64 0), (.int .i64 0), (.int .i64 0), (.int .u8 0), (.int .u8 0), (.int .u8 0), (.int .u8 0), (.int .u8 0), (.int .u8 0), (.int .u8 0), (.int .u8 0), (.int .u8 0), (.int .u8 0), (.int .u8 0), (.int .u8 0), (.int .u8 0), (.int .u8 0), (.int .u8 0), (.int .u8 0), (.int .i64 0), (.int .i64 0), (.int .u8 0), (.int .u8 0), (.int .u8 0), (.int .u8 0), (.int .u8 0), (.int .u8 0), (.int .u8 0), (.int .u8 0), (.int .u8 0), (.int .u8 0), (.int .u8 0), (.int .u8 0), (.int .u8 0), (.int .u8 0), (.int .u8 0), (.int .u8 0), (.int .i64 0), (.int .i64 0), (.int .i64 0), (.int .i64 0), (.int .i64 0), (.int .i64 0), (.int .i64 0), (.int .i64 0), (.int .i64 0), (.int .u8 0), (.int .u8 0), (.int .u8 0), (.int .u8 0), (.int .u8 0), (.int .u8 0), (.int .u8 0), (.int .u8 0), (.int .u8 0), (.int .u8 0), (.int .u8 0), (.int .u8 0), (.int .u8 0), (.int .u8 0), (.int .u8 0), (.int .u8 0), (.int .i64 0), (.int .i64 0), (.int .u8 0), (.int .u8 0), (.int .u8 0), (.int .u8 0), (.int .u8 0), (.int .u8 0), (.int .u8 0), (.int .u8 0), (.int .u8 0), (.int .u8 0), (.int .u8 0), (.int .u8 0), (.int .u8 0), (.int .u8 0), (.int .u8 0), (.int .u8 0), (.int .i64 0), (.int .i64 0), (.int .i64 0), (.int .i64 0), (.int .i64 0), (.int .i64 0), (.int .i64 0), (.int .i64 0)] 4 [(0, 43, (.t 42)), (43, 43, (.t 43)), (86, 43, (.t 44)), (129, 43, (.t 45))]),
    .call (some 47) none (.c (.fn (.func 45) [] [])) [(.t 46)],
    .op (some 41) none (.mv (.t 47)),
    .op (some 48) none (.ext (.t 41) 0),
    .op (some 49) none (.ext (.t 41) 1),
    .op (some 11) none (.alloc [(.int .i64 0), (.int .i64 0)]),
    .op (some 10) none (.mv (.t 48)),
    .op none none (.store 2 (.t 11) (.t 49))]
def c12r10 : List AStm := [.op (some 51) none (.load (some 43) (.t 1)),
    .op (some 52) none (.build [(.int .i64 0), (.int .u8 0), (.int .u8 0), (.int .u8 0), (.int .u8 0), (.int .u8 0), (.int .u8 0), (.int .u8 0), (.int .u8 0), (.int .u8 0), (.int .u8 0), (.int .u8 0), (.int .u8 0), (.int .u8 0), (.int .u8 0), (.int .u8 0), (.int .u8 0), (.int .i64 0), (.int .i64 0), (.int .u8 0), (.int .u8 0), (.int .u8 0), (.int .u8 0), (.int .u8 0), (.int .u8 0), (.int .u8 0), (.int .u8 0), (.int .u8 0), (.int .u8 0), (.int .u8 0), (.int .u8 0), (.int .u8 0), (.int .u8 0), (.int .u8 0), (.int .u8 0), (.int .i64 0), (.int .i64 0), (.int .i64 0), (.int .i64 0), (.int .i64 0), (.int .i64 0), (.int .i64 0), (.int .i64 0)] []),
    .op (some 53) none (.bslice 43 [(.int .i64 0), (.int .u8 0), (.int .u8 0), (.int .u8 0), (.int .u8 0), (.int .u8 0), (.int .u8 0), (.int .u8 0), (.int .u8 0), (.int .u8 0), (.int .u8 0), (.int .u8 0), (.int .u8 0), (.int .u8 0), (.int .u8 0), (.int .u8 0), (.int .u8 0), (.int .i64 0), (.int .i64 0), (.int .u8 0), (.int .u8 0), (.int .u8 0), (.int .u8 0), (.int .u8 0), (.int .u8 0), (.int .u8 0), (.int .u8 0), (.int .u8 0), (.int .u8 0), (.int .u8 0), (.int .u8 0), (.int .u8 0), (.int .u8 0), (.int .u8 0), (.int .u8 0), (.int .i64 0), (.int .i64 0), (.int .i64 0), (.int .i64 0), (.int .i64 0), (.int .i64 0), (.int .i64 0), (.int .i64 0), (.int .i64 0), (.int .u8 0), (.int .u8 0), (.int .u8 0), (.int .u8 0), (.int .u8 0), (.int .u8 0), (.int .u8 0), (.int .u8 0), (.int .u8 0), (.int .u8 0), (.int .u8 0), (.int .u8 0), (.int .u8 0), (.int .u8 0), (.int .u8 0), (.int .u8 0), (.int .i64 0), (.int .i64 0), (.int .u8 0), (.int .u8 0), (.int .u8 0), (.int .u8 0), (.int .u8 0), (.int .u8 0), (.int .u8 0), (.int .u8 0), (.int .u8 0), (.int .u8 0), (.int .u8 0), (.int .u8 0), (.int .u8 0), (.int .u8 0), (.int .u8 0), (.int .u8 0), (.int .i64 0), (.int .i64 0), (.int .i64 0), (.int .i64 0), (.int .i64 0), (.int .i64 0), (.int .i64 0), (.int .i64 0)] 2 [(0, 43, (.t 51)), (43, 43, (.t 52))]),
    .call (some 54) none (.c (.fn (.func 44) [] [])) [(.t 53)],
    .op (some 50) none (.mv (.t 54)),
    .op (some 55) none (.ext (.t 50) 0),
    .op (some 56) none (.ext (.t 50) 1),
    .op (some 13) none (.alloc [(.int .i64 0), (.int .i64 0)]),
    .op (some 12) none (.mv (.t 55)),
    .op none none (.store 2 (.t 13) (.t 56))]
def c12r11 : List AStm := [.op (some 57) none (.load (some 43) (.t 1)),
    .op (some 58) none (.load (some 43) (.t 2)),
    .call (some 59) none (.c (.fn (.func 9) [] [])) [(.t 57), (.t 58)],
    .op (some 60) none (.mv (.t 59)),
    .op (some 61) (some (60, true)) (.load (some 43) (.t 2)),
    .op (some 62) (some (60, true)) (.load (some 43) (.t 1)),
    .call (some 63) (some (60, true)) (.c (.fn (.func 9) [] [])) [(.t 61), (.t 62)],
    .op (some 64) (some (60, true)) (.un .not (.t 63)),
    .op (some 65) none (.pick (.t 60) (.t 64) (.c (.bool false))),
    .op (some 66) none (.mv (.t 65)),
    .op (some 67) (some (66, true)) (.load (some 43) (.t 1)),
    .op (some 68) (some (66, true)) (.load (some 43) (.t 2)),
    .call (some 69) (some (66, true)) (.c (.fn (.func 10) [] [])) [(.t 67), (.t 68)],
    .op (some 70) none (.pick (.t 66) (.t 69) (.c (.bool false))),
    .op (some 71) none (.mv (.t 70)),
    .op (some 72) (some (71, true)) (.mv (.t 5)),
    .op (some 73) none (.pick (.t 71) (.t 72) (.c (.bool false))),
    .op (some 74) none (.mv (.t 73)),
    .op (some 75) (some (74, true)) (.load (some 38) (.t 4)),
    .op (some 76) (some (74, true)) (.build [(.int .i64 0), (.int .u8 0), (.int .u8 0), (.int .u8 0), (.int .u8 0), (.int .u8 0), (.int .u8 0), (.int .u8 0), (.int .u8 0), (.int .u8 0), (.int .u8 0), (.int .u8 0), (.int .u8 0), (.int .u8 0), (.int .u8 0), (.int .u8 0), (.int .u8 0), (.int .u8 0), (.int .u8 0), (.int .u8 0), (.int .u8 0), (.int .u8 0), (.int .u8 0), (.int .u8 0), (.int .u8 0), (.int .u8 0), (.int .u8 0), (.int .u8 0), (.int .u8 0), (.int .u8 0), (.int .u8 0), (.int .u8 0), (.int .u8 0), (.int .i64 0), (.int .i64 0), (.bool false), (.int .i64 0), (.int .i64 0)] [(0, 1, (.c (.int .i64 4))), (33, 1, (.c (.int .i64 6))), (35, 1, (.c (.bool true))), (37, 1, (.c (.int .i64 53)))]),
    .op (some 77) (some (74, true)) (.eqa false [.ki, .ki, .ki, .ki, .ki, .ki, .ki, .ki, .ki, .ki, .ki, .ki, .ki, .ki, .ki, .ki, .ki, .ki, .ki, .ki, .ki, .ki, .ki, .ki, .ki, .ki, .ki, .ki, .ki, .ki, .ki, .ki, .ki, .ki, .ki, .kb, .ki, .ki] (.t 75) (.t 76)),
    .op (some 78) none (.pick (.t 74) (.t 77) (.c (.bool false))),
    .op (some 79) none (.mv (.t 78)),
    .op (some 80) (some (79, true)) (.mv (.t 7)),
    .op (some 81) (some (79, true)) (.un .not (.t 80)),
    .op (some 82) none (.pick (.t 79) (.t 81) (.c (.bool false))),
    .op (some 83) none (.mv (.t 82)),
    .op (some 84) (some (83, true)) (.load (some 43) (.t 3)),
    .call (some 85) (some (83, true)) (.c (.fn (.func 46) [] [])) [(.t 84)],
    .op (some 86) none (.pick (.t 83) (.t 85) (.c (.bool false))),
    .op (some 87) none (.mv (.t 86)),
    .op (some 88) (some (87, true)) (.load (some 43) (.t 2)),
    .call (some 89) (some (87, true)) (.c (.fn (.func 46) [] [])) [(.t 88)],
    .op (some 90) (some (87, true)) (.un .not (.t 89)),
    .op (some 91) none (.pick (.t 87) (.t 90) (.c (.bool false))),
    .op (some 92) none (.mv (.t 91)),
    .op (some 93) (some (92, true)) (.load (some 2) (.t 9)),
    .op (some 94) (some (92, true)) (.build [(.int .i64 0), (.int .i64 0)] []),
    .op (some 95) (some (92, true)) (.eqa false [.ki, .ki] (.t 93) (.t 94)),
    .op (some 96) none (.pick (.t 92) (.t 95) (.c (.bool false))),
    .op (some 97) none (.mv (.t 96)),
    .op (some 98) (some (97, true)) (.mv (.t 8)),
    .op (some 99) (some (97, true)) (.build [(.int .i64 0), (.int .i64 0), (.int .i64 0)] [(0, 1, (.c (.int .i64 3))), (1, 1, (.c (.int .i64 1))), (2, 1, (.c (.int .i64 0)))]),
    .op (some 100) (some (97, true)) (.build [(.int .i64 0), (.int .i64 0), (.int .i64 0)] [(0, 1, (.c (.int .i64 1))), (1, 1, (.c (.int .i64 2))), (2, 1, (.c (.int .i64 2)))]),
    .op (some 101) (some (97, true)) (.build [(.int .i64 0), (.int .i64 0), (.int .i64 0)] [(0, 1, (.c (.int .i64 2))), (1, 1, (.c (.int .i64 3))), (2, 1, (.c (.int .i64 0)))]),
    .op (some 102) (some (97, true)) (.bslice 3 (List.replicate 9 (.int .i64 0)) 3 [(0, 3, (.t 99)), (3, 3, (.t 100)), (6, 3, (.t 101))]),
    .call (some 103) (some (97, true)) (.c (.fn (.func 47) [] [])) [(.t 98), (.t 102)],
    .op (some 104) none (.pick (.t 97) (.t 103) (.c (.bool false))),
    .op (some 105) none (.mv (.t 104)),
    .op (some 106) (some (105, true)) (.load (some 2) (.t 11)),
    .op (some 107) (some (105, true)) (.build [(.int .i64 0), (.int .i64 0)] []),
    .op (some 108) (some (105, true)) (.eqa false [.ki, .ki] (.t 106) (.t 107)),
    .op (some 109) none (.pick (.t 105) (.t 108) (.c (.bool false))),
    .op (some 110) none (.mv (.t 109)),
    .op (some 111) (some (110, true)) (.mv (.t 10)),
    .op (some 112) (some (110, true)) (.len false (.t 111)),
    .op (some 113) (some (110, true)) (.bin .eql (.t 112) (.c (.int .i64 2))),
    .op (some 114) none (.pick (.t 110) (.t 113) (.c (.bool false))),
    .op (some 115) none (.mv (.t 114)),
    .op (some 116) (some (115, true)) (.load (some 2) (.t 13)),
    .op (some 117) (some (115, true)) (.build [(.int .i64 0), (.int .i64 0)] [(0, 1, (.c (.int .i64 4))), (1, 1, (.c (.int .i64 1)))]),
    .op (some 118) (some (115, true)) (.eqa false [.ki, .ki] (.t 116) (.t 117)),
    .op (some 119) none (.pick (.t 115) (.t 118) (.c (.bool false))),
    .op (some 0) none (.mv (.t 119))]
def c12 : CF := ⟨.seq (.reg c12r0) (.seq (.reg c12r1) (.seq (.reg c12r2) (.seq (.reg c12r3) (.seq (.reg c12r4) (.seq (.reg c12r5) (.seq (.dreg c12r6 c12r7) (.seq (.reg c12r8) (.seq (.reg c12r9) (.seq (.reg c12r10) (.seq (.reg c12r11) (.ret))))))))))), [.tmp 0], 120⟩
theorem cf12 : cfun Try.prog 12 = some c12 := by kernel_rfl

/-! ### weighbridge/rule.Check, params 1 -/
def c13r0 : List AStm := [.op (some 1) none (.box (.t 0)),
    .op (some 2) none (.mv (.c (.int .i64 0)))]
def c13r1 : List AStm := [.op (some 9) none (.faddr 0 (.t 1)),
    .op (some 10) none (.load (some 18) (.t 9)),
    .op (some 11) none (.faddr 18 (.t 1)),
    .op (some 12) none (.load (some 18) (.t 11)),
    .op (some 13) none (.build [(.int .i64 0), (.int .u8 0), (.int .u8 0), (.int .u8 0), (.int .u8 0), (.int .u8 0), (.int .u8 0), (.int .u8 0), (.int .u8 0), (.int .u8 0), (.int .u8 0), (.int .u8 0), (.int .u8 0), (.int .u8 0), (.int .u8 0), (.int .u8 0), (.int .u8 0), (.int .i64 0), (.int .i64 0), (.int .u8 0), (.int .u8 0), (.int .u8 0), (.int .u8 0), (.int .u8 0), (.int .u8 0), (.int .u8 0), (.int .u8 0), (.int .u8 0), (.int .u8 0), (.int .u8 0), (.int .u8 0), (.int .u8 0), (.int .u8 0), (.int .u8 0), (.int .u8 0), (.int .i64 0)] [(0, 18, (.t 10)), (18, 18, (.t 12))]),
    .op (some 14) none (.mv (.c (.int .i64 0)))]
def c13r2 : List AStm := [.op (some 15) none (.bin .lss (.t 14) (.c (.int .i64 2)))]
def c13r3 : List AStm := [.op (some 16) none (.ixv 2 18 (some 18) (.t 13) (.t 14)),
    .op (some 4) none (.alloc [(.int .i64 0), (.int .u8 0), (.int .u8 0), (.int .u8 0), (.int .u8 0), (.int .u8 0), (.int .u8 0), (.int .u8 0), (.int .u8 0), (.int .u8 0), (.int .u8 0), (.int .u8 0), (.int .u8 0), (.int .u8 0), (.int .u8 0), (.int .u8 0), (.int .u8 0), (.int .i64 0)]),
    .op none none (.store 18 (.t 4) (.t 16))]
def c13r4 : List AStm := [.op (some 17) none (.load (some 18) (.t 4)),
    .call (some 18) none (.c (.fn (.func 22) [] [])) [(.t 17)],
    .op (some 5) none (.mv (.t 18))]
def c13r5 : List AStm := [.op (some 19) none (.mv (.t 5)),
    .op (some 20) none (.bin .neq (.t 19) (.c (.int .i64 0)))]
def c13r6 : List AStm := [.op (some 21) none (.mv (.t 5)),
    .op (some 2) none (.mv (.t 21))]
def c13r7 : List AStm := [.op (some 22) none (.bin .add (.t 14) (.c (.int .i64 1))),
    .op (some 14) none (.mv (.t 22))]
def c13l8 : AC := .seq (.reg c13r2) (.seq (.cond (.t 15) (.skip) (.exit 0)) (.seq (.block 1 (.seq (.reg c13r3) (.seq (.reg c13r4) (.seq (.reg c13r5) (.cond (.t 20) (.seq (.reg c13r6) (.ret)) (.skip)))))) (.reg c13r7)))
def c13r9 : List AStm := [.op (some 23) none (.faddr 0 (.t 1)),
    .op (some 24) none (.faddr 0 (.t 23)),
    .op (some 25) none (.load none (.t 24)),
    .op (some 26) none (.faddr 18 (.t 1)),
    .op (some 27) none (.faddr 0 (.t 26)),
    .op (some 28) none (.load none (.t 27)),
    .op (some 29) none (.bin .neq (.t 25) (.t 28))]
def c13r10 : List AStm := [.op (some 2) none (.mv (.c (.int .i64 4)))]
def c13r11 : List AStm := [.op (some 30) none (.faddr 36 (.t 1)),
    .op (some 31) none (.load (some 2) (.t 30)),
    .op (some 32) none (.faddr 38 (.t 1)),
    .op (some 33) none (.load (some 2) (.t 32)),
    .op (some 34) none (.build (List.replicate 4 (.int .i64 0)) [(0, 2, (.t 31)), (2, 2, (.t 33))]),
    .op (some 35) none (.mv (.c (.int .i64 0)))]
def c13r12 : List AStm := [.op (some 36) none (.bin .lss (.t 35) (.c (.int .i64 2)))]
def c13r13 : List AStm := [.op (some 37) none (.ixv 2 2 (some 2) (.t 34) (.t 35)),
    .op (some 7) none (.alloc [(.int .i64 0), (.int .i64 0)]),
    .op none none (.store 2 (.t 7) (.t 37))]
def c13r14 : List AStm := [.op (some 38) none (.load (some 2) (.t 7)),
    .call (some 39) none (.c (.fn (.func 48) [] [])) [(.t 38)],
    .op (some 8) none (.mv (.t 39))]
def c13r15 : List AStm := [.op (some 40) none (.mv (.t 8)),
    .op (some 41) none (.bin .neq (.t 40) (.c (.int .i64 0)))]
def c13r16 : List AStm := [.op (some 42) none (.mv (.t 8)),
    .op (some 2) none (.mv (.t 42))]
def c13r17 : List AStm := [.op (some 43) none (.bin .add (.t 35) (.c (.int .i64 1))),
    .op (some 35) none (.mv (.t 43))]
def c13l18 : AC := .seq (.reg c13r12) (.seq (.cond (.t 36) (.skip) (.exit 2)) (.seq (.block 3 (.seq (.reg c13r13) (.seq (.reg c13r14) (.seq (.reg c13r15) (.cond (.t 41) (.seq (.reg c13r16) (.ret)) (.skip)))))) (.reg c13r17)))
def c13r19 : List AStm := [.op (some 45) none (.faddr 40 (.t 1)),
    .op (some 46) none (.load none (.t 45)),
    .op (some 47) none (.bin .lss (.t 46) (.c (.int .i64 (-1)))),
    .op (some 48) none (.mv (.t 47)),
    .op (some 49) (some (48, false)) (.faddr 40 (.t 1)),
    .op (some 50) (some (48, false)) (.load none (.t 49)),
    .op (some 51) (some (48, false)) (.bin .gtr (.t 50) (.c (.int .i64 255))),
    .op (some 52) none (.pick (.t 48) (.c (.bool true)) (.t 51)),
    .op (some 44) none (.mv (.t 52))]
def c13r20 : List AStm := [.op (some 2) none (.mv (.c (.int .i64 1)))]
def c13r21 : List AStm := [.op (some 54) none (.faddr 41 (.t 1)),
    .op (some 55) none (.load none (.t 54)),
    .op (some 56) none (.bin .lss (.t 55) (.c (.int .i64 (-1)))),
    .op (some 57) none (.mv (.t 56)),
    .op (some 58) (some (57, false)) (.faddr 41 (.t 1)),
    .op (some 59) (some (57, false)) (.load none (.t 58)),
    .op (some 60) (some (57, false)) (.bin .gtr (.t 59) (.c (.int .i64 63))),
    .op (some 61) none (.pick (.t 57) (.c (.bool true)) (.t 60)),
    .op (some 53) none (.mv (.t 61))]
def c13r22 : List AStm := [.op (some 2) none (.mv (.c (.int .i64 14)))]
def c13r23 : List AStm := [.op (some 63) none (.faddr 42 (.t 1)),
    .op (some 64) none (.load none (.t 63)),
    .call (some 65) none (.c (.fn (.func 49) [] [])) [(.t 64)],
    .op (some 66) none (.un .not (.t 65)),
    .op (some 62) none (.mv (.t 66))]
def c13r24 : List AStm := [.op (some 2) none (.mv (.c (.int .i64 11)))]
def c13r25 : List AStm := [.op (some 2) none (.mv (.c (.int .i64 0)))]
def c13 : CF := ⟨.seq (.reg c13r0) (.seq (.seq (.reg c13r1) (.block 0 (.loop c13l8))) (.seq (.seq (.reg c13r9) (.cond (.t 29) (.seq (.reg c13r10) (.ret)) (.skip))) (.seq (.seq (.reg c13r11) (.block 2 (.loop c13l18))) (.seq (.block 4 (.seq (.reg c13r19) (.cond (.t 44) (.seq (.reg c13r20) (.ret)) (.seq (.reg c13r21) (.cond (.t 53) (.seq (.reg c13r22) (.ret)) (.seq (.reg c13r23) (.cond (.t 62) (.seq (.reg c13r24) (.ret)) (.skip)))))))) (.seq (.reg c13r25) (.ret)))))), [.tmp 2], 67⟩
theorem cf13 : cfun Try.prog 13 = some c13 := by kernel_rfl

/-! ### weighbridge/rule.Any, params 2 -/
def c16r0 : List AStm := [.op (some 4) none (.alloc [(.int .i64 0), (.int .u8 0), (.int .u8 0), (.int .u8 0), (.int .u8 0), (.int .u8 0), (.int .u8 0), (.int .u8 0), (.int .u8 0), (.int .u8 0), (.int .u8 0), (.int .u8 0), (.int .u8 0), (.int .u8 0), (.int .u8 0), (.int .u8 0), (.int .u8 0), (.int .i64 0), (.int .i64 0), (.int .u8 0), (.int .u8 0), (.int .u8 0), (.int .u8 0), (.int .u8 0), (.int .u8 0), (.int .u8 0), (.int .u8 0), (.int .u8 0), (.int .u8 0), (.int .u8 0), (.int .u8 0), (.int .u8 0), (.int .u8 0), (.int .u8 0), (.int .u8 0), (.int .i64 0), (.int .i64 0), (.int .i64 0), (.int .i64 0), (.int .i64 0), (.int .i64 0), (.int .i64 0), (.int .i64 0)])]
def c16r1 : List AStm := [.op (some 5) none (.mv (.t 0)),
    .call (some 6) none (.c (.fn (.func 33) [] [])) [(.t 5)],
    .op (some 7) none (.mv (.t 0)),
    .call (some 8) none (.c (.fn (.func 33) [] [])) [(.t 7)],
    .call (some 9) none (.c (.fn (.func 35) [] [])) [],
    .call (some 10) none (.c (.fn (.func 35) [] [])) [],
    .op (some 11) none (.mv (.t 1)),
    .op (some 12) none (.build [(.int .i64 0), (.int .u8 0), (.int .u8 0), (.int .u8 0), (.int .u8 0), (.int .u8 0), (.int .u8 0), (.int .u8 0), (.int .u8 0), (.int .u8 0), (.int .u8 0), (.int .u8 0), (.int .u8 0), (.int .u8 0), (.int .u8 0), (.int .u8 0), (.int .u8 0), (.int .i64 0), (.int .i64 0), (.int .u8 0), (.int .u8 0), (.int .u8 0), (.int .u8 0), (.int .u8 0), (.int .u8 0), (.int .u8 0), (.int .u8 0), (.int .u8 0), (.int .u8 0), (.int .u8 0), (.int .u8 0), (.int .u8 0), (.int .u8 0), (.int .u8 0), (.int .u8 0), (.int .i64 0), (.int .i64 0), (.int .i64 0), (.int .i64 0), (.int .i64 0), (.int .i64 0), (.int .i64 0), (.int .i64 0)] [(0, 18, (.t 6)), (18, 18, (.t 8)), (36, 2, (.t 9)), (38, 2, (.t 10)), (40, 1, (.c (.int .i64 (-1)))), (41, 1, (.c (.int .i64 (-1)))), (42, 1, (.t 11))]),
    .op none none (.store 43 (.t 4) (.t 12))]
def c16 : CF := ⟨.seq (.reg c16r0) (.seq (.reg c16r1) (.ret)), [.cell 4 (some 43)], 13⟩
theorem cf16 : cfun Try.prog 16 = some c16 := by kernel_rfl

/-! ### weighbridge/prefix.Check, params 1 -/
def c22r0 : List AStm := [.op (some 1) none (.box (.t 0)),
    .op (some 2) none (.mv (.c (.int .i64 0)))]
def c22r1 : List AStm := [.op (some 4) none (.faddr 0 (.t 1)),
    .op (some 5) none (.load none (.t 4)),
    .op (some 6) none (.faddr 17 (.t 1)),
    .op (some 7) none (.load none (.t 6)),
    .call (some 8) none (.c (.fn (.func 56) [] [])) [(.t 5), (.t 7)],
    .op (some 3) none (.mv (.t 8))]
def c22r2 : List AStm := [.op (some 9) none (.mv (.t 3)),
    .op (some 10) none (.bin .neq (.t 9) (.c (.int .i64 0)))]
def c22r3 : List AStm := [.op (some 11) none (.mv (.t 3)),
    .op (some 2) none (.mv (.t 11))]
def c22r4 : List AStm := []
def c22r5 : List AStm := [.op (some 12) none (.faddr 1 (.t 1)),
    .op (some 13) none (.load (some 16) (.t 12)),
    .op (some 14) none (.faddr 17 (.t 1)),
    .op (some 15) none (.load none (.t 14)),
    .op (some 17) none (.faddr 1 (.t 1)),
    .op (some 18) none (.load (some 16) (.t 17)),
    .callG (some 16) none (.c (.fn (.func 57) [] [])) [(.t 13), (.t 15)],
    .op (some 19) none (.eqa true (List.replicate 16 .ki) (.t 16) (.t 18))]
def c22r6 : List AStm := [.op (some 2) none (.mv (.c (.int .i64 5)))]
def c22r7 : List AStm := [.op (some 2) none (.mv (.c (.int .i64 0)))]
def c22 : CF := ⟨.seq (.reg c22r0) (.seq (.seq (.reg c22r1) (.seq (.reg c22r2) (.cond (.t 10) (.seq (.reg c22r3) (.ret)) (.skip)))) (.seq (.seq (.dreg c22r4 c22r5) (.cond (.t 19) (.seq (.reg c22r6) (.ret)) (.skip))) (.seq (.reg c22r7) (.ret)))), [.tmp 2], 20⟩
theorem cf22 : cfun Try.prog 22 = some c22 := by kernel_rfl

/-! ### weighbridge/prefix.Has, params 3 -/
def c27r0 : List AStm := [.op (some 3) none (.box (.t 0)),
    .op (some 5) none (.box (.t 2)),
    .op (some 6) none (.mv (.c (.bool false)))]
def c27r1 : List AStm := []
def c27r2 : List AStm := [.op (some 7) none (.load (some 18) (.t 3)),
    .callG (some 8) none (.c (.fn (.func 61) [] [])) [(.t 7)],
    .op (some 9) none (.mv (.t 8)),
    .op (some 10) (some (9, true)) (.mv (.t 1)),
    .op (some 11) (some (9, true)) (.faddr 0 (.t 3)),
    .op (some 12) (some (9, true)) (.load none (.t 11)),
    .op (some 13) (some (9, true)) (.bin .eql (.t 10) (.t 12)),
    .op (some 14) none (.pick (.t 9) (.t 13) (.c (.bool false))),
    .op (some 15) none (.mv (.t 14)),
    .op (some 16) (some (15, true)) (.load (some 16) (.t 5)),
    .op (some 17) (some (15, true)) (.faddr 17 (.t 3)),
    .op (some 18) (some (15, true)) (.load none (.t 17)),
    .op (some 20) (some (15, true)) (.faddr 1 (.t 3)),
    .op (some 21) (some (15, true)) (.load (some 16) (.t 20)),
    .callG (some 19) (some (15, true)) (.c (.fn (.func 57) [] [])) [(.t 16), (.t 18)],
    .op (some 22) (some (15, true)) (.eqa false (List.replicate 16 .ki) (.t 19) (.t 21)),
    .op (some 23) none (.pick (.t 15) (.t 22) (.c (.bool false))),
    .op (some 6) none (.mv (.t 23))]
def c27 : CF := ⟨.seq (.reg c27r0) (.seq (.dreg c27r1 c27r2) (.ret)), [.tmp 6], 24⟩
theorem cf27 : cfun Try.prog 27 = some c27 := by kernel_rfl

/-! ### weighbridge/prefix.Within, params 2 -/
def c29r0 : List AStm := [.op (some 2) none (.box (.t 0)),
    .op (some 3) none (.box (.t 1)),
    .op (some 4) none (.mv (.c (.bool false)))]
def c29r1 : List AStm := [.op (some 5) none (.load (some 18) (.t 2)),
    .call (some 6) none (.c (.fn (.func 61) [] [])) [(.t 5)],
    .op (some 7) none (.mv (.t 6)),
    .op (some 8) (some (7, true)) (.faddr 17 (.t 2)),
    .op (some 9) (some (7, true)) (.load none (.t 8)),
    .op (some 10) (some (7, true)) (.faddr 17 (.t 3)),
    .op (some 11) (some (7, true)) (.load none (.t 10)),
    .op (some 12) (some (7, true)) (.bin .geq (.t 9) (.t 11)),
    .op (some 13) none (.pick (.t 7) (.t 12) (.c (.bool false))),
    .op (some 14) none (.mv (.t 13)),
    .op (some 15) (some (14, true)) (.load (some 18) (.t 3)),
    .op (some 16) (some (14, true)) (.faddr 0 (.t 2)),
    .op (some 17) (some (14, true)) (.load none (.t 16)),
    .op (some 18) (some (14, true)) (.faddr 1 (.t 2)),
    .op (some 19) (some (14, true)) (.load (some 16) (.t 18)),
    .call (some 20) (some (14, true)) (.c (.fn (.func 27) [] [])) [(.t 15), (.t 17), (.t 19)],
    .op (some 21) none (.pick (.t 14) (.t 20) (.c (.bool false))),
    .op (some 4) none (.mv (.t 21))]
def c29 : CF := ⟨.seq (.reg c29r0) (.seq (.reg c29r1) (.ret)), [.tmp 4], 22⟩
theorem cf29 : cfun Try.prog 29 = some c29 := by kernel_rfl

/-! ### weighbridge/prefix.Meet, params 2 -/
def c30r0 : List AStm := [.op (some 2) none (.box (.t 0)),
    .op (some 3) none (.box (.t 1)),
    .op (some 4) none (.mv (.c (.bool false)))]
def c30r1 : List AStm := [.op (some 5) none (.load (some 18) (.t 2)),
    .op (some 6) none (.load (some 18) (.t 3)),
    .call (some 7) none (.c (.fn (.func 29) [] [])) [(.t 5), (.t 6)],
    .op (some 8) none (.mv (.t 7)),
    .op (some 9) (some (8, false)) (.load (some 18) (.t 3)),
    .op (some 10) (some (8, false)) (.load (some 18) (.t 2)),
    .call (some 11) (some (8, false)) (.c (.fn (.func 29) [] [])) [(.t 9), (.t 10)],
    .op (some 12) none (.pick (.t 8) (.c (.bool true)) (.t 11)),
    .op (some 4) none (.mv (.t 12))]
def c30 : CF := ⟨.seq (.reg c30r0) (.seq (.reg c30r1) (.ret)), [.tmp 4], 13⟩
theorem cf30 : cfun Try.prog 30 = some c30 := by kernel_rfl

/-! ### weighbridge/prefix.All, params 1 -/
def c33r0 : List AStm := [.op (some 2) none (.alloc [(.int .i64 0), (.int .u8 0), (.int .u8 0), (.int .u8 0), (.int .u8 0), (.int .u8 0), (.int .u8 0), (.int .u8 0), (.int .u8 0), (.int .u8 0), (.int .u8 0), (.int .u8 0), (.int .u8 0), (.int .u8 0), (.int .u8 0), (.int .u8 0), (.int .u8 0), (.int .i64 0)])]
def c33r1 : List AStm := [.op (some 3) none (.mv (.t 0)),
    .op (some 4) none (.build [(.int .i64 0), (.int .u8 0), (.int .u8 0), (.int .u8 0), (.int .u8 0), (.int .u8 0), (.int .u8 0), (.int .u8 0), (.int .u8 0), (.int .u8 0), (.int .u8 0), (.int .u8 0), (.int .u8 0), (.int .u8 0), (.int .u8 0), (.int .u8 0), (.int .u8 0), (.int .i64 0)] [(0, 1, (.t 3))]),
    .op none none (.store 18 (.t 2) (.t 4))]
def c33 : CF := ⟨.seq (.reg c33r0) (.seq (.reg c33r1) (.ret)), [.cell 2 (some 18)], 5⟩
theorem cf33 : cfun Try.prog 33 = some c33 := by kernel_rfl

/-! ### weighbridge/span.All, params 0 -/
def c35r0 : List AStm := [.op (some 0) none (.alloc [(.int .i64 0), (.int .i64 0)])]
def c35r1 : List AStm := [.op (some 1) none (.build [(.int .i64 0), (.int .i64 0)] [(1, 1, (.c (.int .i64 65535)))]),
    .op none none (.store 2 (.t 0) (.t 1))]
def c35 : CF := ⟨.seq (.reg c35r0) (.seq (.reg c35r1) (.ret)), [.cell 0 (some 2)], 2⟩
theorem cf35 : cfun Try.prog 35 = some c35 := by kernel_rfl

/-! ### weighbridge/shadow.right, params 1 -/
def c38r0 : List AStm := [.op (some 2) none (.mv (.c (.bool false)))]
def c38r1 : List AStm := [.op (some 3) none (.mv (.t 0)),
    .call (some 4) none (.c (.fn (.func 71) [] [])) [(.t 3), (.c (.fn (.func 72) [] []))],
    .op (some 5) none (.un .not (.t 4)),
    .op (some 2) none (.mv (.t 5))]
def c38 : CF := ⟨.seq (.reg c38r0) (.seq (.reg c38r1) (.ret)), [.tmp 2], 6⟩
theorem cf38 : cfun Try.prog 38 = some c38 := by kernel_rfl

/-! ### weighbridge/shadow.Covers$1, params 2 -/
def c39r0 : List AStm := [.op (some 4) none (.mv (.c (.bool false)))]
def c39r1 : List AStm := [.op (some 5) none (.mv (.t 0)),
    .op (some 6) none (.bin .eql (.t 5) (.c (.int .i64 (-1)))),
    .op (some 7) none (.mv (.t 6)),
    .op (some 8) (some (7, false)) (.mv (.t 0)),
    .op (some 9) (some (7, false)) (.mv (.t 1)),
    .op (some 10) (some (7, false)) (.bin .eql (.t 8) (.t 9)),
    .op (some 11) none (.pick (.t 7) (.c (.bool true)) (.t 10)),
    .op (some 4) none (.mv (.t 11))]
def c39 : CF := ⟨.seq (.reg c39r0) (.seq (.reg c39r1) (.ret)), [.tmp 4], 12⟩
theorem cf39 : cfun Try.prog 39 = some c39 := by kernel_rfl

/-! ### weighbridge/shadow.wider, params 2 -/
def c40r0 : List AStm := [.op (some 2) none (.box (.t 0)),
    .op (some 3) none (.box (.t 1)),
    .op (some 4) none (.mv (.c (.bool false)))]
def c40r1 : List AStm := []
def c40r2 : List AStm := [.op (some 5) none (.load (some 2) (.t 2)),
    .callG (some 6) none (.c (.fn (.func 35) [] [])) [],
    .op (some 7) none (.eqa false [.ki, .ki] (.t 5) (.t 6)),
    .op (some 8) none (.mv (.t 7)),
    .op (some 9) (some (8, false)) (.load (some 2) (.t 3)),
    .callG (some 10) (some (8, false)) (.c (.fn (.func 35) [] [])) [],
    .op (some 11) (some (8, false)) (.eqa true [.ki, .ki] (.t 9) (.t 10)),
    .op (some 12) (some (8, false)) (.mv (.t 11)),
    .op (some 13) (some (12, true)) (.faddr 0 (.t 2)),
    .op (some 14) (some (12, true)) (.load none (.t 13)),
    .op (some 15) (some (12, true)) (.faddr 0 (.t 3)),
    .op (some 16) (some (12, true)) (.load none (.t 15)),
    .op (some 17) (some (12, true)) (.bin .leq (.t 14) (.t 16)),
    .op (some 18) (some (8, false)) (.pick (.t 12) (.t 17) (.c (.bool false))),
    .op (some 19) (some (8, false)) (.mv (.t 18)),
    .op (some 20) (some (19, true)) (.faddr 1 (.t 2)),
    .op (some 21) (some (19, true)) (.load none (.t 20)),
    .op (some 22) (some (19, true)) (.faddr 1 (.t 3)),
    .op (some 23) (some (19, true)) (.load none (.t 22)),
    .op (some 24) (some (19, true)) (.bin .geq (.t 21) (.t 23)),
    .op (some 25) (some (8, false)) (.pick (.t 19) (.t 24) (.c (.bool false))),
    .op (some 26) none (.pick (.t 8) (.c (.bool true)) (.t 25)),
    .op (some 4) none (.mv (.t 26))]
def c40 : CF := ⟨.seq (.reg c40r0) (.seq (.dreg c40r1 c40r2) (.ret)), [.tmp 4], 27⟩
theorem cf40 : cfun Try.prog 40 = some c40 := by kernel_rfl

/-! ### (*weighbridge/shadow.meeting).address, params 3 -/
def c41r0 : List AStm := [.op (some 4) none (.box (.t 1)),
    .op (some 5) none (.box (.t 2)),
    .op (some 6) none (.alloc (List.replicate 16 (.int .u8 0)))]
def c41r1 : List AStm := [.op (some 7) none (.mv (.t 0)),
    .op (some 8) none (.mv (.t 0)),
    .op (some 9) none (.nilchk (.t 8)),
    .op (some 10) none (.faddr 0 (.t 9)),
    .op (some 11) none (.load none (.t 10)),
    .op (some 12) none (.mv (.t 11)),
    .op (some 13) (some (12, false)) (.load (some 18) (.t 4)),
    .op (some 14) (some (12, false)) (.load (some 18) (.t 5)),
    .call (some 15) (some (12, false)) (.c (.fn (.func 30) [] [])) [(.t 13), (.t 14)],
    .op (some 16) (some (12, false)) (.un .not (.t 15)),
    .op (some 17) none (.pick (.t 12) (.c (.bool true)) (.t 16)),
    .op (some 18) none (.nilchk (.t 7)),
    .op (some 19) none (.faddr 0 (.t 18)),
    .op none none (.store 1 (.t 19) (.t 17))]
def c41r2 : List AStm := [.op (some 20) none (.faddr 17 (.t 4)),
    .op (some 21) none (.load none (.t 20)),
    .op (some 22) none (.faddr 17 (.t 5)),
    .op (some 23) none (.load none (.t 22)),
    .op (some 24) none (.bin .gtr (.t 21) (.t 23))]
def c41r3 : List AStm := [.op (some 25) none (.faddr 1 (.t 4)),
    .op (some 26) none (.load (some 16) (.t 25)),
    .op none none (.store 16 (.t 6) (.t 26))]
def c41r4 : List AStm := [.op (some 27) none (.faddr 1 (.t 5)),
    .op (some 28) none (.load (some 16) (.t 27)),
    .op none none (.store 16 (.t 6) (.t 28))]
def c41 : CF := ⟨.seq (.reg c41r0) (.seq (.reg c41r1) (.seq (.seq (.reg c41r2) (.cond (.t 24) (.seq (.reg c41r3) (.ret)) (.skip))) (.seq (.reg c41r4) (.ret)))), [.cell 6 (some 16)], 29⟩
theorem cf41 : cfun Try.prog 41 = some c41 := by kernel_rfl

/-! ### (*weighbridge/shadow.meeting).port, params 3 -/
def c42r0 : List AStm := [.op (some 4) none (.box (.t 1)),
    .op (some 5) none (.box (.t 2)),
    .op (some 6) none (.mv (.c (.int .i64 0)))]
def c42r1 : List AStm := [.op (some 10) none (.load (some 2) (.t 4)),
    .op (some 11) none (.load (some 2) (.t 5)),
    .call (some 12) none (.c (.fn (.func 73) [] [])) [(.t 10), (.t 11)],
    .op (some 9) none (.mv (.t 12)),
    .op (some 13) none (.ext (.t 9) 0),
    .op (some 14) none (.ext (.t 9) 1),
    .op (some 7) none (.alloc [(.int .i64 0), (.int .i64 0)]),
    .op none none (.store 2 (.t 7) (.t 13)),
    .op (some 8) none (.mv (.t 14))]
def c42r2 : List AStm := [.op (some 15) none (.mv (.t 0)),
    .op (some 16) none (.mv (.t 0)),
    .op (some 17) none (.nilchk (.t 16)),
    .op (some 18) none (.faddr 0 (.t 17)),
    .op (some 19) none (.load none (.t 18)),
    .op (some 20) none (.mv (.t 19)),
    .op (some 21) (some (20, false)) (.mv (.t 8)),
    .op (some 22) (some (20, false)) (.un .not (.t 21)),
    .op (some 23) none (.pick (.t 20) (.c (.bool true)) (.t 22)),
    .op (some 24) none (.nilchk (.t 15)),
    .op (some 25) none (.faddr 0 (.t 24)),
    .op none none (.store 1 (.t 25) (.t 23))]
def c42r3 : List AStm := [.op (some 26) none (.faddr 0 (.t 7)),
    .op (some 27) none (.load none (.t 26)),
    .op (some 6) none (.mv (.t 27))]
def c42 : CF := ⟨.seq (.reg c42r0) (.seq (.reg c42r1) (.seq (.reg c42r2) (.seq (.reg c42r3) (.ret)))), [.tmp 6], 28⟩
theorem cf42 : cfun Try.prog 42 = some c42 := by kernel_rfl

/-! ### (*weighbridge/shadow.meeting).number, params 4 -/
def c43r0 : List AStm := [.op (some 8) none (.mv (.c (.int .i64 0)))]
def c43r1 : List AStm := [.op (some 10) none (.mv (.t 1)),
    .op (some 11) none (.bin .eql (.t 10) (.c (.int .i64 (-1)))),
    .op (some 12) none (.mv (.t 11)),
    .op (some 13) (some (12, true)) (.mv (.t 2)),
    .op (some 14) (some (12, true)) (.bin .eql (.t 13) (.c (.int .i64 (-1)))),
    .op (some 15) none (.pick (.t 12) (.t 14) (.c (.bool false))),
    .op (some 9) none (.mv (.t 15))]
def c43r2 : List AStm := [.op (some 16) none (.mv (.t 3)),
    .op (some 8) none (.mv (.t 16))]
def c43r3 : List AStm := [.op (some 18) none (.mv (.t 1)),
    .op (some 19) none (.bin .eql (.t 18) (.c (.int .i64 (-1)))),
    .op (some 17) none (.mv (.t 19))]
def c43r4 : List AStm := [.op (some 20) none (.mv (.t 2)),
    .op (some 8) none (.mv (.t 20))]
def c43r5 : List AStm := [.op (some 22) none (.mv (.t 2)),
    .op (some 23) none (.bin .neq (.t 22) (.c (.int .i64 (-1)))),
    .op (some 24) none (.mv (.t 23)),
    .op (some 25) (some (24, true)) (.mv (.t 1)),
    .op (some 26) (some (24, true)) (.mv (.t 2)),
    .op (some 27) (some (24, true)) (.bin .neq (.t 25) (.t 26)),
    .op (some 28) none (.pick (.t 24) (.t 27) (.c (.bool false))),
    .op (some 21) none (.mv (.t 28))]
def c43r6 : List AStm := [.op (some 29) none (.mv (.t 0)),
    .op (some 30) none (.nilchk (.t 29)),
    .op (some 31) none (.faddr 0 (.t 30)),
    .op none none (.store 1 (.t 31) (.c (.bool true)))]
def c43r7 : List AStm := [.op (some 32) none (.mv (.t 1)),
    .op (some 8) none (.mv (.t 32))]
def c43 : CF := ⟨.seq (.reg c43r0) (.seq (.block 0 (.seq (.reg c43r1) (.cond (.t 9) (.seq (.reg c43r2) (.ret)) (.seq (.reg c43r3) (.cond (.t 17) (.seq (.reg c43r4) (.ret)) (.seq (.reg c43r5) (.cond (.t 21) (.reg c43r6) (.skip)))))))) (.seq (.reg c43r7) (.ret))), [.tmp 8], 33⟩
theorem cf43 : cfun Try.prog 43 = some c43 := by kernel_rfl

/-! ### weighbridge/shadow.Lint, params 1 -/
def c44r0 : List AStm := [.op (some 2) none (.mv (.c .nils)),
    .op (some 3) none (.alloc [(.int .i64 0), (.int .i64 0)])]
def c44r1 : List AStm := [.op (some 13) none (.mv (.t 0)),
    .call (some 14) none (.c (.fn (.func 74) [] [])) [(.t 13)],
    .op (some 12) none (.mv (.t 14)),
    .op (some 15) none (.ext (.t 12) 0),
    .op (some 16) none (.ext (.t 12) 1),
    .op (some 5) none (.alloc [(.int .i64 0), (.int .i64 0)]),
    .op (some 4) none (.mv (.t 15)),
    .op none none (.store 2 (.t 5) (.t 16))]
def c44r2 : List AStm := [.op (some 17) none (.faddr 0 (.t 5)),
    .op (some 18) none (.load none (.t 17)),
    .op (some 19) none (.bin .neq (.t 18) (.c (.int .i64 0)))]
def c44r3 : List AStm := [.op (some 20) none (.load (some 2) (.t 5)),
    .op (some 2) none (.mv (.c .nils)),
    .op none none (.store 2 (.t 3) (.t 20))]
def c44r4 : List AStm := []
def c44r5 : List AStm := [.op (some 21) none (.mv (.t 0)),
    .call (some 22) none (.c (.fn (.func 75) [] [])) [(.t 21)],
    .op (some 6) none (.mv (.t 22))]
def c44r6 : List AStm := [.op (some 7) none (.mv (.c .nils))]
def c44r7 : List AStm := [.op (some 23) none (.mv (.t 6)),
    .op (some 24) none (.len false (.t 23)),
    .op (some 25) none (.mv (.c (.int .i64 0)))]
def c44r8 : List AStm := [.op (some 26) none (.bin .lss (.t 25) (.t 24))]
def c44r9 : List AStm := [.op (some 27) none (.mv (.t 25)),
    .op (some 28) none (.ixs 2 (.t 23) (.t 25)),
    .op (some 29) none (.load (some 2) (.t 28)),
    .op (some 9) none (.alloc [(.int .i64 0), (.int .i64 0)]),
    .op (some 8) none (.mv (.t 27)),
    .op none none (.store 2 (.t 9) (.t 29))]
def c44r10 : List AStm := [.op (some 30) none (.faddr 0 (.t 9)),
    .op (some 31) none (.load none (.t 30)),
    .op (some 32) none (.bin .neq (.t 31) (.c (.int .i64 0)))]
def c44r11 : List AStm := [.op (some 33) none (.mv (.t 7)),
    .op (some 34) none (.faddr 0 (.t 9)),
    .op (some 35) none (.load none (.t 34)),
    .op (some 36) none (.mv (.t 8)),
    .op (some 37) none (.faddr 1 (.t 9)),
    .op (some 38) none (.load none (.t 37)),
    .op (some 39) none (.build [(.int .i64 0), (.int .i64 0), (.int .i64 0)] [(0, 1, (.t 35)), (1, 1, (.t 36)), (2, 1, (.t 38))]),
    .op (some 40) none (.bslice 3 [(.int .i64 0), (.int .i64 0), (.int .i64 0)] 1 [(0, 3, (.t 39))]),
    .op (some 41) none (.append false 3 24 (.t 33) (.t 40)),
    .op (some 7) none (.mv (.t 41))]
def c44r12 : List AStm := [.op (some 42) none (.mv (.t 6)),
    .op (some 43) none (.mv (.t 8)),
    .op (some 44) none (.slc 2 (.t 42) none (some (.t 43))),
    .op (some 45) none (.len false (.t 44)),
    .op (some 46) none (.mv (.c (.int .i64 0)))]
def c44r13 : List AStm := [.op (some 47) none (.bin .lss (.t 46) (.t 45))]
def c44r14 : List AStm := [.op (some 48) none (.mv (.t 46)),
    .op (some 49) none (.ixs 2 (.t 44) (.t 46)),
    .op (some 50) none (.load (some 2) (.t 49)),
    .op (some 11) none (.alloc [(.int .i64 0), (.int .i64 0)]),
    .op (some 10) none (.mv (.t 48)),
    .op none none (.store 2 (.t 11) (.t 50))]
def c44r15 : List AStm := []
def c44r16 : List AStm := [.op (some 51) none (.faddr 0 (.t 11)),
    .op (some 52) none (.load none (.t 51)),
    .op (some 53) none (.bin .eql (.t 52) (.c (.int .i64 0))),
    .op (some 54) none (.mv (.t 53)),
    .op (some 55) (some (54, true)) (.mv (.t 0)),
    .op (some 56) (some (54, true)) (.mv (.t 8)),
    .op (some 57) (some (54, true)) (.ixs 43 (.t 55) (.t 56)),
    .op (some 58) (some (54, true)) (.faddr 42 (.t 57)),
    .op (some 59) (some (54, true)) (.load none (.t 58)),
    .op (some 60) (some (54, true)) (.mv (.t 0)),
    .op (some 61) (some (54, true)) (.mv (.t 10)),
    .op (some 62) (some (54, true)) (.ixs 43 (.t 60) (.t 61)),
    .op (some 63) (some (54, true)) (.faddr 42 (.t 62)),
    .op (some 64) (some (54, true)) (.load none (.t 63)),
    .op (some 65) (some (54, true)) (.bin .neq (.t 59) (.t 64)),
    .op (some 66) none (.pick (.t 54) (.t 65) (.c (.bool false))),
    .op (some 67) none (.mv (.t 66)),
    .op (some 68) (some (67, true)) (.mv (.t 0)),
    .op (some 69) (some (67, true)) (.mv (.t 10)),
    .op (some 70) (some (67, true)) (.ixs 43 (.t 68) (.t 69)),
    .op (some 71) (some (67, true)) (.load (some 43) (.t 70)),
    .op (some 72) (some (67, true)) (.mv (.t 0)),
    .op (some 73) (some (67, true)) (.mv (.t 8)),
    .op (some 74) (some (67, true)) (.ixs 43 (.t 72) (.t 73)),
    .op (some 75) (some (67, true)) (.load (some 43) (.t 74)),
    .callG (some 76) (some (67, true)) (.c (.fn (.func 10) [] [])) [(.t 71), (.t 75)],
    .op (some 77) none (.pick (.t 67) (.t 76) (.c (.bool false)))]
def c44r17 : List AStm := [.op (some 78) none (.mv (.t 7)),
    .op (some 79) none (.mv (.t 8)),
    .op (some 80) none (.mv (.t 10)),
    .op (some 81) none (.build [(.int .i64 0), (.int .i64 0), (.int .i64 0)] [(0, 1, (.c (.int .i64 3))), (1, 1, (.t 79)), (2, 1, (.t 80))]),
    .op (some 82) none (.bslice 3 [(.int .i64 0), (.int .i64 0), (.int .i64 0)] 1 [(0, 3, (.t 81))]),
    .op (some 83) none (.append false 3 24 (.t 78) (.t 82)),
    .op (some 7) none (.mv (.t 83))]
def c44r18 : List AStm := [.op (some 84) none (.bin .add (.t 46) (.c (.int .i64 1))),
    .op (some 46) none (.mv (.t 84))]
def c44l19 : AC := .seq (.reg c44r13) (.seq (.cond (.t 47) (.skip) (.exit 2)) (.seq (.block 3 (.seq (.reg c44r14) (.seq (.dreg c44r15 c44r16) (.cond (.t 77) (.reg c44r17) (.skip))))) (.reg c44r18)))
def c44r20 : List AStm := [.op (some 85) none (.bin .add (.t 25) (.c (.int .i64 1))),
    .op (some 25) none (.mv (.t 85))]
def c44l21 : AC := .seq (.reg c44r8) (.seq (.cond (.t 26) (.skip) (.exit 0)) (.seq (.block 1 (.seq (.reg c44r9) (.seq (.seq (.reg c44r10) (.cond (.t 32) (.seq (.reg c44r11) (.exit 1)) (.skip))) (.seq (.reg c44r12) (.block 2 (.loop c44l19)))))) (.reg c44r20)))
def c44r22 : List AStm := [.op (some 86) none (.mv (.t 7)),
    .op (some 87) none (.build [(.int .i64 0), (.int .i64 0)] []),
    .op (some 2) none (.mv (.t 86)),
    .op none none (.store 2 (.t 3) (.t 87))]
def c44 : CF := ⟨.seq (.reg c44r0) (.seq (.seq (.reg c44r1) (.seq (.reg c44r2) (.cond (.t 19) (.seq (.dreg c44r3 c44r4) (.ret)) (.skip)))) (.seq (.reg c44r5) (.seq (.reg c44r6) (.seq (.seq (.reg c44r7) (.block 0 (.loop c44l21))) (.seq (.reg c44r22) (.ret)))))), [.tmp 2, .cell 3 (some 2)], 88⟩
theorem cf44 : cfun Try.prog 44 = some c44 := by kernel_rfl

/-! ### weighbridge/shadow.Prune, params 1 -/
def c45r0 : List AStm := [.op (some 2) none (.mv (.c .nils)),
    .op (some 3) none (.alloc [(.int .i64 0), (.int .i64 0)])]
def c45r1 : List AStm := [.op (some 10) none (.mv (.t 0)),
    .call (some 11) none (.c (.fn (.func 74) [] [])) [(.t 10)],
    .op (some 9) none (.mv (.t 11)),
    .op (some 12) none (.ext (.t 9) 0),
    .op (some 13) none (.ext (.t 9) 1),
    .op (some 5) none (.alloc [(.int .i64 0), (.int .i64 0)]),
    .op (some 4) none (.mv (.t 12)),
    .op none none (.store 2 (.t 5) (.t 13))]
def c45r2 : List AStm := [.op (some 14) none (.faddr 0 (.t 5)),
    .op (some 15) none (.load none (.t 14)),
    .op (some 16) none (.bin .neq (.t 15) (.c (.int .i64 0)))]
def c45r3 : List AStm := [.op (some 17) none (.load (some 2) (.t 5)),
    .op (some 2) none (.mv (.c .nils)),
    .op none none (.store 2 (.t 3) (.t 17))]
def c45r4 : List AStm := []
def c45r5 : List AStm := [.op (some 6) none (.mv (.c .nils))]
def c45r6 : List AStm := [.op (some 18) none (.mv (.t 0)),
    .call (some 19) none (.c (.fn (.func 75) [] [])) [(.t 18)],
    .op (some 20) none (.len false (.t 19)),
    .op (some 21) none (.mv (.c (.int .i64 0)))]
def c45r7 : List AStm := [.op (some 22) none (.bin .lss (.t 21) (.t 20))]
def c45r8 : List AStm := [.op (some 23) none (.mv (.t 21)),
    .op (some 24) none (.ixs 2 (.t 19) (.t 21)),
    .op (some 25) none (.load (some 2) (.t 24)),
    .op (some 8) none (.alloc [(.int .i64 0), (.int .i64 0)]),
    .op (some 7) none (.mv (.t 23)),
    .op none none (.store 2 (.t 8) (.t 25))]
def c45r9 : List AStm := [.op (some 26) none (.faddr 0 (.t 8)),
    .op (some 27) none (.load none (.t 26)),
    .op (some 28) none (.bin .eql (.t 27) (.c (.int .i64 0)))]
def c45r10 : List AStm := [.op (some 29) none (.mv (.t 6)),
    .op (some 30) none (.mv (.t 0)),
    .op (some 31) none (.mv (.t 7)),
    .op (some 32) none (.ixs 43 (.t 30) (.t 31)),
    .op (some 33) none (.load (some 43) (.t 32)),
    .op (some 34) none (.bslice 43 [(.int .i64 0), (.int .u8 0), (.int .u8 0), (.int .u8 0), (.int .u8 0), (.int .u8 0), (.int .u8 0), (.int .u8 0), (.int .u8 0), (.int .u8 0), (.int .u8 0), (.int .u8 0), (.int .u8 0), (.int .u8 0), (.int .u8 0), (.int .u8 0), (.int .u8 0), (.int .i64 0), (.int .i64 0), (.int .u8 0), (.int .u8 0), (.int .u8 0), (.int .u8 0), (.int .u8 0), (.int .u8 0), (.int .u8 0), (.int .u8 0), (.int .u8 0), (.int .u8 0), (.int .u8 0), (.int .u8 0), (.int .u8 0), (.int .u8 0), (.int .u8 0), (.int .u8 0), (.int .i64 0), (.int .i64 0), (.int .i64 0), (.int .i64 0), (.int .i64 0), (.int .i64 0), (.int .i64 0), (.int .i64 0)] 1 [(0, 43, (.t 33))]),
    .op (some 35) none (.append false 43 120 (.t 29) (.t 34)),
    .op (some 6) none (.mv (.t 35))]
def c45r11 : List AStm := [.op (some 36) none (.bin .add (.t 21) (.c (.int .i64 1))),
    .op (some 21) none (.mv (.t 36))]
def c45l12 : AC := .seq (.reg c45r7) (.seq (.cond (.t 22) (.skip) (.exit 0)) (.seq (.block 1 (.seq (.reg c45r8) (.seq (.reg c45r9) (.cond (.t 28) (.reg c45r10) (.skip))))) (.reg c45r11)))
def c45r13 : List AStm := [.op (some 37) none (.mv (.t 6)),
    .op (some 38) none (.build [(.int .i64 0), (.int .i64 0)] []),
    .op (some 2) none (.mv (.t 37)),
    .op none none (.store 2 (.t 3) (.t 38))]
def c45 : CF := ⟨.seq (.reg c45r0) (.seq (.seq (.reg c45r1) (.seq (.reg c45r2) (.cond (.t 16) (.seq (.dreg c45r3 c45r4) (.ret)) (.skip)))) (.seq (.reg c45r5) (.seq (.seq (.reg c45r6) (.block 0 (.loop c45l12))) (.seq (.reg c45r13) (.ret))))), [.tmp 2, .cell 3 (some 2)], 39⟩
theorem cf45 : cfun Try.prog 45 = some c45 := by kernel_rfl

/-! ### weighbridge/shadow.Dead, params 1 -/
def c46r0 : List AStm := [.op (some 1) none (.box (.t 0)),
    .op (some 2) none (.mv (.c (.bool false)))]
def c46r1 : List AStm := []
def c46r2 : List AStm := [.op (some 4) none (.faddr 36 (.t 1)),
    .op (some 5) none (.load (some 2) (.t 4)),
    .callG (some 6) none (.c (.fn (.func 35) [] [])) [],
    .op (some 7) none (.eqa true [.ki, .ki] (.t 5) (.t 6)),
    .op (some 8) none (.mv (.t 7)),
    .op (some 9) (some (8, false)) (.faddr 38 (.t 1)),
    .op (some 10) (some (8, false)) (.load (some 2) (.t 9)),
    .callG (some 11) (some (8, false)) (.c (.fn (.func 35) [] [])) [],
    .op (some 12) (some (8, false)) (.eqa true [.ki, .ki] (.t 10) (.t 11)),
    .op (some 13) none (.pick (.t 8) (.c (.bool true)) (.t 12)),
    .op (some 3) none (.mv (.t 13))]
def c46r3 : List AStm := [.op (some 14) none (.load (some 43) (.t 1)),
    .op (some 15) none (.bslice 43 [(.int .i64 0), (.int .u8 0), (.int .u8 0), (.int .u8 0), (.int .u8 0), (.int .u8 0), (.int .u8 0), (.int .u8 0), (.int .u8 0), (.int .u8 0), (.int .u8 0), (.int .u8 0), (.int .u8 0), (.int .u8 0), (.int .u8 0), (.int .u8 0), (.int .u8 0), (.int .i64 0), (.int .i64 0), (.int .u8 0), (.int .u8 0), (.int .u8 0), (.int .u8 0), (.int .u8 0), (.int .u8 0), (.int .u8 0), (.int .u8 0), (.int .u8 0), (.int .u8 0), (.int .u8 0), (.int .u8 0), (.int .u8 0), (.int .u8 0), (.int .u8 0), (.int .u8 0), (.int .i64 0), (.int .i64 0), (.int .i64 0), (.int .i64 0), (.int .i64 0), (.int .i64 0), (.int .i64 0), (.int .i64 0)] 1 [(0, 43, (.t 14))]),
    .call (some 16) none (.c (.fn (.func 38) [] [])) [(.t 15)],
    .op (some 17) none (.mv (.t 16)),
    .op (some 18) (some (17, true)) (.mv (.t 3)),
    .op (some 19) none (.pick (.t 17) (.t 18) (.c (.bool false))),
    .op (some 20) none (.mv (.t 19)),
    .op (some 21) (some (20, true)) (.faddr 40 (.t 1)),
    .op (some 22) (some (20, true)) (.load none (.t 21)),
    .op (some 23) (some (20, true)) (.bin .neq (.t 22) (.c (.int .i64 (-1)))),
    .op (some 24) none (.pick (.t 20) (.t 23) (.c (.bool false))),
    .op (some 25) none (.mv (.t 24)),
    .op (some 26) (some (25, true)) (.faddr 40 (.t 1)),
    .op (some 27) (some (25, true)) (.load none (.t 26)),
    .call (some 28) (some (25, true)) (.c (.fn (.func 76) [] [])) [(.t 27)],
    .op (some 29) (some (25, true)) (.bin .eql (.t 28) (.c (.int .i64 0))),
    .op (some 30) none (.pick (.t 25) (.t 29) (.c (.bool false))),
    .op (some 2) none (.mv (.t 30))]
def c46 : CF := ⟨.seq (.reg c46r0) (.seq (.dreg c46r1 c46r2) (.seq (.reg c46r3) (.ret))), [.tmp 2], 31⟩
theorem cf46 : cfun Try.prog 46 = some c46 := by kernel_rfl

/-! ### weighbridge/weighbridgeref23.SameNotes, params 2 -/
def c47r0 : List AStm := [.op (some 4) none (.mv (.c (.bool false)))]
def c47r1 : List AStm := [.op (some 6) none (.mv (.t 0)),
    .op (some 7) none (.len false (.t 6)),
    .op (some 8) none (.mv (.t 1)),
    .op (some 9) none (.len false (.t 8)),
    .op (some 10) none (.bin .neq (.t 7) (.t 9))]
def c47r2 : List AStm := [.op (some 4) none (.mv (.c (.bool false)))]
def c47r3 : List AStm := [.op (some 5) none (.mv (.c (.int .i64 0)))]
def c47r4 : List AStm := [.op (some 11) none (.mv (.t 5)),
    .op (some 12) none (.mv (.t 0)),
    .op (some 13) none (.len false (.t 12)),
    .op (some 14) none (.bin .lss (.t 11) (.t 13))]
def c47r5 : List AStm := [.op (some 17) none (.mv (.t 0)),
    .op (some 18) none (.mv (.t 5)),
    .op (some 19) none (.ixs 3 (.t 17) (.t 18)),
    .op (some 20) none (.load (some 3) (.t 19)),
    .op (some 21) none (.mv (.t 1)),
    .op (some 22) none (.mv (.t 5)),
    .op (some 23) none (.ixs 3 (.t 21) (.t 22)),
    .op (some 24) none (.load (some 3) (.t 23)),
    .op (some 25) none (.eqa true [.ki, .ki, .ki] (.t 20) (.t 24))]
def c47r6 : List AStm := []
def c47r7 : List AStm := [.op (some 4) none (.mv (.c (.bool false)))]
def c47r8 : List AStm := [.op (some 15) none (.mv (.t 5)),
    .op (some 16) none (.bin .add (.t 15) (.c (.int .i64 1))),
    .op (some 5) none (.mv (.t 16))]
def c47l9 : AC := .seq (.seq (.reg c47r4) (.cond (.t 14) (.skip) (.exit 0))) (.seq (.block 1 (.seq (.dreg c47r5 c47r6) (.cond (.t 25) (.seq (.reg c47r7) (.ret)) (.skip)))) (.reg c47r8))
def c47r10 : List AStm := [.op (some 4) none (.mv (.c (.bool true)))]
def c47 : CF := ⟨.seq (.reg c47r0) (.seq (.seq (.reg c47r1) (.cond (.t 10) (.seq (.reg c47r2) (.ret)) (.skip))) (.seq (.seq (.reg c47r3) (.block 0 (.loop c47l9))) (.seq (.reg c47r10) (.ret)))), [.tmp 4], 26⟩
theorem cf47 : cfun Try.prog 47 = some c47 := by kernel_rfl

/-! ### weighbridge/span.Check, params 1 -/
def c48r0 : List AStm := [.op (some 1) none (.box (.t 0)),
    .op (some 2) none (.mv (.c (.int .i64 0)))]
def c48r1 : List AStm := [.op (some 4) none (.faddr 0 (.t 1)),
    .op (some 5) none (.load none (.t 4)),
    .call (some 6) none (.c (.fn (.func 77) [] [])) [(.t 5)],
    .op (some 7) none (.un .not (.t 6)),
    .op (some 8) none (.mv (.t 7)),
    .op (some 9) (some (8, false)) (.faddr 1 (.t 1)),
    .op (some 10) (some (8, false)) (.load none (.t 9)),
    .call (some 11) (some (8, false)) (.c (.fn (.func 77) [] [])) [(.t 10)],
    .op (some 12) (some (8, false)) (.un .not (.t 11)),
    .op (some 13) none (.pick (.t 8) (.c (.bool true)) (.t 12)),
    .op (some 3) none (.mv (.t 13))]
def c48r2 : List AStm := [.op (some 2) none (.mv (.c (.int .i64 1)))]
def c48r3 : List AStm := [.op (some 15) none (.faddr 0 (.t 1)),
    .op (some 16) none (.load none (.t 15)),
    .op (some 17) none (.faddr 1 (.t 1)),
    .op (some 18) none (.load none (.t 17)),
    .op (some 19) none (.bin .gtr (.t 16) (.t 18)),
    .op (some 14) none (.mv (.t 19))]
def c48r4 : List AStm := [.op (some 2) none (.mv (.c (.int .i64 6)))]
def c48r5 : List AStm := [.op (some 2) none (.mv (.c (.int .i64 0)))]
def c48 : CF := ⟨.seq (.reg c48r0) (.seq (.block 0 (.seq (.reg c48r1) (.cond (.t 3) (.seq (.reg c48r2) (.ret)) (.seq (.reg c48r3) (.cond (.t 14) (.seq (.reg c48r4) (.ret)) (.skip)))))) (.seq (.reg c48r5) (.ret))), [.tmp 2], 20⟩
theorem cf48 : cfun Try.prog 48 = some c48 := by kernel_rfl

/-! ### weighbridge/rule.isClass, params 1 -/
def c49r0 : List AStm := [.op (some 2) none (.mv (.c (.bool false)))]
def c49r1 : List AStm := [.op (some 3) none (.mv (.t 0)),
    .op (some 4) none (.bin .geq (.t 3) (.c (.int .i64 0))),
    .op (some 5) none (.mv (.t 4)),
    .op (some 6) (some (5, true)) (.mv (.t 0)),
    .op (some 7) (some (5, true)) (.bin .lss (.t 6) (.c (.int .i64 16))),
    .op (some 8) none (.pick (.t 5) (.t 7) (.c (.bool false))),
    .op (some 2) none (.mv (.t 8))]
def c49 : CF := ⟨.seq (.reg c49r0) (.seq (.reg c49r1) (.ret)), [.tmp 2], 9⟩
theorem cf49 : cfun Try.prog 49 = some c49 := by kernel_rfl

/-! ### weighbridge/prefix.fits, params 2 -/
def c56r0 : List AStm := [.op (some 4) none (.mv (.c (.int .i64 0)))]
def c56r1 : List AStm := [.op (some 8) none (.mv (.t 0)),
    .call (some 9) none (.c (.fn (.func 60) [] [])) [(.t 8)],
    .op (some 7) none (.mv (.t 9)),
    .op (some 10) none (.ext (.t 7) 0),
    .op (some 11) none (.ext (.t 7) 1),
    .op (some 5) none (.mv (.t 10)),
    .op (some 6) none (.mv (.t 11))]
def c56r2 : List AStm := [.op (some 13) none (.mv (.t 6)),
    .op (some 14) none (.un .not (.t 13)),
    .op (some 12) none (.mv (.t 14))]
def c56r3 : List AStm := [.op (some 4) none (.mv (.c (.int .i64 4)))]
def c56r4 : List AStm := [.op (some 16) none (.mv (.t 1)),
    .op (some 17) none (.bin .lss (.t 16) (.c (.int .i64 0))),
    .op (some 18) none (.mv (.t 17)),
    .op (some 19) (some (18, false)) (.mv (.t 1)),
    .op (some 20) (some (18, false)) (.mv (.t 5)),
    .op (some 21) (some (18, false)) (.bin .gtr (.t 19) (.t 20)),
    .op (some 22) none (.pick (.t 18) (.c (.bool true)) (.t 21)),
    .op (some 15) none (.mv (.t 22))]
def c56r5 : List AStm := [.op (some 4) none (.mv (.c (.int .i64 1)))]
def c56r6 : List AStm := [.op (some 4) none (.mv (.c (.int .i64 0)))]
def c56 : CF := ⟨.seq (.reg c56r0) (.seq (.reg c56r1) (.seq (.block 0 (.seq (.reg c56r2) (.cond (.t 12) (.seq (.reg c56r3) (.ret)) (.seq (.reg c56r4) (.cond (.t 15) (.seq (.reg c56r5) (.ret)) (.skip)))))) (.seq (.reg c56r6) (.ret)))), [.tmp 4], 23⟩
theorem cf56 : cfun Try.prog 56 = some c56 := by kernel_rfl

/-! ### weighbridge/prefix.mask, params 2 -/
def c57r0 : List AStm := [.op (some 2) none (.box (.t 0)),
    .op (some 4) none (.alloc (List.replicate 16 (.int .u8 0)))]
def c57r1 : List AStm := [.op (some 7) none (.mv (.c (.int .i64 0)))]
def c57r2 : List AStm := [.op (some 8) none (.bin .lss (.t 7) (.c (.int .i64 16)))]
def c57r3 : List AStm := [.op (some 9) none (.mv (.t 7)),
    .op (some 5) none (.mv (.t 9))]
def c57r4 : List AStm := [.op (some 10) none (.mv (.t 1)),
    .op (some 11) none (.mv (.t 5)),
    .op (some 12) none (.bin .mul (.c (.int .i64 8)) (.t 11)),
    .op (some 13) none (.bin .sub (.t 10) (.t 12)),
    .op (some 6) none (.mv (.t 13))]
def c57r5 : List AStm := [.op (some 15) none (.mv (.t 6)),
    .op (some 16) none (.bin .leq (.t 15) (.c (.int .i64 0))),
    .op (some 14) none (.mv (.t 16))]
def c57r6 : List AStm := [.op (some 17) none (.mv (.t 5)),
    .op (some 18) none (.ixa 16 1 (.t 2) (.t 17)),
    .op none none (.store 1 (.t 18) (.c (.int .u8 0)))]
def c57r7 : List AStm := [.op (some 20) none (.mv (.t 6)),
    .op (some 21) none (.bin .lss (.t 20) (.c (.int .i64 8))),
    .op (some 19) none (.mv (.t 21))]
def c57r8 : List AStm := [.op (some 22) none (.mv (.t 5)),
    .op (some 23) none (.ixa 16 1 (.t 2) (.t 22)),
    .op (some 24) none (.load none (.t 23)),
    .op (some 25) none (.mv (.t 6)),
    .op (some 26) none (.bin .sub (.c (.int .i64 8)) (.t 25)),
    .op (some 27) none (.conv .u64 (.t 26)),
    .op (some 28) none (.bin .shl (.c (.int .u8 255)) (.t 27)),
    .op (some 29) none (.bin .and (.t 24) (.t 28)),
    .op (some 30) none (.ixa 16 1 (.t 2) (.t 22)),
    .op none none (.store 1 (.t 30) (.t 29))]
def c57r9 : List AStm := [.op (some 31) none (.bin .add (.t 7) (.c (.int .i64 1))),
    .op (some 7) none (.mv (.t 31))]
def c57l10 : AC := .seq (.reg c57r2) (.seq (.cond (.t 8) (.skip) (.exit 0)) (.seq (.block 1 (.seq (.reg c57r3) (.seq (.reg c57r4) (.block 2 (.seq (.reg c57r5) (.cond (.t 14) (.reg c57r6) (.seq (.reg c57r7) (.cond (.t 19) (.reg c57r8) (.skip))))))))) (.reg c57r9)))
def c57r11 : List AStm := [.op (some 32) none (.load (some 16) (.t 2)),
    .op none none (.store 16 (.t 4) (.t 32))]
def c57 : CF := ⟨.seq (.reg c57r0) (.seq (.seq (.reg c57r1) (.block 0 (.loop c57l10))) (.seq (.reg c57r11) (.ret))), [.cell 4 (some 16)], 33⟩
theorem cf57 : cfun Try.prog 57 = some c57 := by kernel_rfl

/-! ### weighbridge/prefix.most, params 1 -/
def c60r0 : List AStm := [.op (some 2) none (.mv (.c (.int .i64 0))),
    .op (some 3) none (.mv (.c (.bool false)))]
def c60r1 : List AStm := [.op (some 4) none (.mv (.t 0))]
def c60r2 : List AStm := [.op (some 6) none (.bin .eql (.t 4) (.c (.int .i64 4))),
    .op (some 5) none (.mv (.t 6))]
def c60r3 : List AStm := [.op (some 2) none (.mv (.c (.int .i64 32))),
    .op (some 3) none (.mv (.c (.bool true)))]
def c60r4 : List AStm := [.op (some 8) none (.bin .eql (.t 4) (.c (.int .i64 6))),
    .op (some 7) none (.mv (.t 8))]
def c60r5 : List AStm := [.op (some 2) none (.mv (.c (.int .i64 128))),
    .op (some 3) none (.mv (.c (.bool true)))]
def c60r6 : List AStm := [.op (some 2) none (.mv (.c (.int .i64 0))),
    .op (some 3) none (.mv (.c (.bool false)))]
def c60 : CF := ⟨.seq (.reg c60r0) (.seq (.seq (.reg c60r1) (.block 0 (.seq (.reg c60r2) (.cond (.t 5) (.seq (.reg c60r3) (.ret)) (.seq (.reg c60r4) (.cond (.t 7) (.seq (.reg c60r5) (.ret)) (.skip))))))) (.seq (.reg c60r6) (.ret))), [.tmp 2, .tmp 3], 9⟩
theorem cf60 : cfun Try.prog 60 = some c60 := by kernel_rfl

/-! ### weighbridge/prefix.right, params 1 -/
def c61r0 : List AStm := [.op (some 1) none (.box (.t 0)),
    .op (some 2) none (.mv (.c (.bool false)))]
def c61r1 : List AStm := [.op (some 3) none (.load (some 18) (.t 1)),
    .call (some 4) none (.c (.fn (.func 22) [] [])) [(.t 3)],
    .op (some 5) none (.bin .eql (.t 4) (.c (.int .i64 0))),
    .op (some 2) none (.mv (.t 5))]
def c61 : CF := ⟨.seq (.reg c61r0) (.seq (.reg c61r1) (.ret)), [.tmp 2], 6⟩
theorem cf61 : cfun Try.prog 61 = some c61 := by kernel_rfl

/-! ### slices.ContainsFunc[[]weighbridge/api.Rule,weighbridge/api.Rule], params 2 -/
def c71r0 : List AStm := [.op (some 4) none (.mv (.c (.bool false)))]
def c71r1 : List AStm := [.op (some 5) none (.mv (.t 0)),
    .op (some 6) none (.mv (.t 1)),
    .call (some 7) none (.c (.fn (.func 93) [] [])) [(.t 5), (.t 6)],
    .op (some 8) none (.bin .geq (.t 7) (.c (.int .i64 0))),
    .op (some 4) none (.mv (.t 8))]
def c71 : CF := ⟨.seq (.reg c71r0) (.seq (.reg c71r1) (.ret)), [.tmp 4], 9⟩
theorem cf71 : cfun Try.prog 71 = some c71 := by kernel_rfl

/-! ### weighbridge/shadow.right$1, params 1 -/
def c72r0 : List AStm := [.op (some 1) none (.box (.t 0)),
    .op (some 2) none (.mv (.c (.bool false)))]
def c72r1 : List AStm := [.op (some 3) none (.load (some 43) (.t 1)),
    .call (some 4) none (.c (.fn (.func 13) [] [])) [(.t 3)],
    .op (some 5) none (.bin .neq (.t 4) (.c (.int .i64 0))),
    .op (some 2) none (.mv (.t 5))]
def c72 : CF := ⟨.seq (.reg c72r0) (.seq (.reg c72r1) (.ret)), [.tmp 2], 6⟩
theorem cf72 : cfun Try.prog 72 = some c72 := by kernel_rfl

/-! ### weighbridge/span.Meet, params 2 -/
def c73r0 : List AStm := [.op (some 2) none (.box (.t 0)),
    .op (some 3) none (.box (.t 1)),
    .op (some 4) none (.alloc [(.int .i64 0), (.int .i64 0)]),
    .op (some 5) none (.mv (.c (.bool false)))]
def c73r1 : List AStm := [.op (some 7) none (.load (some 2) (.t 2)),
    .call (some 8) none (.c (.fn (.func 48) [] [])) [(.t 7)],
    .op (some 9) none (.bin .neq (.t 8) (.c (.int .i64 0))),
    .op (some 10) none (.mv (.t 9)),
    .op (some 11) (some (10, false)) (.load (some 2) (.t 3)),
    .call (some 12) (some (10, false)) (.c (.fn (.func 48) [] [])) [(.t 11)],
    .op (some 13) (some (10, false)) (.bin .neq (.t 12) (.c (.int .i64 0))),
    .op (some 14) none (.pick (.t 10) (.c (.bool true)) (.t 13))]
def c73r2 : List AStm := [.op (some 15) none (.build [(.int .i64 0), (.int .i64 0)] []),
    .op none none (.store 2 (.t 4) (.t 15)),
    .op (some 5) none (.mv (.c (.bool false)))]
def c73r3 : List AStm := [.op (some 16) none (.faddr 0 (.t 2)),
    .op (some 17) none (.load none (.t 16)),
    .op (some 18) none (.faddr 0 (.t 3)),
    .op (some 19) none (.load none (.t 18)),
    .op (some 20) none (.mnx true (.t 17) (.t 19)),
    .op (some 21) none (.faddr 1 (.t 2)),
    .op (some 22) none (.load none (.t 21)),
    .op (some 23) none (.faddr 1 (.t 3)),
    .op (some 24) none (.load none (.t 23)),
    .op (some 25) none (.mnx false (.t 22) (.t 24)),
    .op (some 26) none (.build [(.int .i64 0), (.int .i64 0)] [(0, 1, (.t 20)), (1, 1, (.t 25))]),
    .op (some 6) none (.alloc [(.int .i64 0), (.int .i64 0)]),
    .op none none (.store 2 (.t 6) (.t 26))]
def c73r4 : List AStm := [.op (some 27) none (.faddr 0 (.t 6)),
    .op (some 28) none (.load none (.t 27)),
    .op (some 29) none (.faddr 1 (.t 6)),
    .op (some 30) none (.load none (.t 29)),
    .op (some 31) none (.bin .gtr (.t 28) (.t 30))]
def c73r5 : List AStm := [.op (some 32) none (.build [(.int .i64 0), (.int .i64 0)] []),
    .op none none (.store 2 (.t 4) (.t 32)),
    .op (some 5) none (.mv (.c (.bool false)))]
def c73r6 : List AStm := [.op (some 33) none (.load (some 2) (.t 6)),
    .op none none (.store 2 (.t 4) (.t 33)),
    .op (some 5) none (.mv (.c (.bool true)))]
def c73 : CF := ⟨.seq (.reg c73r0) (.seq (.seq (.reg c73r1) (.cond (.t 14) (.seq (.reg c73r2) (.ret)) (.skip))) (.seq (.reg c73r3) (.seq (.seq (.reg c73r4) (.cond (.t 31) (.seq (.reg c73r5) (.ret)) (.skip))) (.seq (.reg c73r6) (.ret))))), [.cell 4 (some 2), .tmp 5], 34⟩
theorem cf73 : cfun Try.prog 73 = some c73 := by kernel_rfl

/-! ### weighbridge/sieve.New, params 1 -/
def c74r0 : List AStm := [.op (some 2) none (.mv (.c .nilp)),
    .op (some 3) none (.alloc [(.int .i64 0), (.int .i64 0)])]
def c74r1 : List AStm := [.op (some 7) none (.mv (.t 0)),
    .op (some 8) none (.len false (.t 7)),
    .op (some 9) none (.bin .gtr (.t 8) (.c (.int .i64 256)))]
def c74r2 : List AStm := [.op (some 10) none (.build [(.int .i64 0), (.int .i64 0)] [(0, 1, (.c (.int .i64 7))), (1, 1, (.c (.int .i64 256)))]),
    .op (some 2) none (.mv (.c .nilp)),
    .op none none (.store 2 (.t 3) (.t 10))]
def c74r3 : List AStm := [.op (some 11) none (.mv (.t 0)),
    .op (some 12) none (.len false (.t 11)),
    .op (some 13) none (.mv (.c (.int .i64 0)))]
def c74r4 : List AStm := [.op (some 14) none (.bin .lss (.t 13) (.t 12))]
def c74r5 : List AStm := [.op (some 15) none (.mv (.t 13)),
    .op (some 16) none (.ixs 43 (.t 11) (.t 13)),
    .op (some 17) none (.load (some 43) (.t 16)),
    .op (some 5) none (.alloc [(.int .i64 0), (.int .u8 0), (.int .u8 0), (.int .u8 0), (.int .u8 0), (.int .u8 0), (.int .u8 0), (.int .u8 0), (.int .u8 0), (.int .u8 0), (.int .u8 0), (.int .u8 0), (.int .u8 0), (.int .u8 0), (.int .u8 0), (.int .u8 0), (.int .u8 0), (.int .i64 0), (.int .i64 0), (.int .u8 0), (.int .u8 0), (.int .u8 0), (.int .u8 0), (.int .u8 0), (.int .u8 0), (.int .u8 0), (.int .u8 0), (.int .u8 0), (.int .u8 0), (.int .u8 0), (.int .u8 0), (.int .u8 0), (.int .u8 0), (.int .u8 0), (.int .u8 0), (.int .i64 0), (.int .i64 0), (.int .i64 0), (.int .i64 0), (.int .i64 0), (.int .i64 0), (.int .i64 0), (.int .i64 0)]),
    .op (some 4) none (.mv (.t 15)),
    .op none none (.store 43 (.t 5) (.t 17))]
def c74r6 : List AStm := [.op (some 18) none (.load (some 43) (.t 5)),
    .call (some 19) none (.c (.fn (.func 13) [] [])) [(.t 18)],
    .op (some 6) none (.mv (.t 19))]
def c74r7 : List AStm := [.op (some 20) none (.mv (.t 6)),
    .op (some 21) none (.bin .neq (.t 20) (.c (.int .i64 0)))]
def c74r8 : List AStm := [.op (some 22) none (.mv (.t 6)),
    .op (some 23) none (.mv (.t 4)),
    .op (some 24) none (.build [(.int .i64 0), (.int .i64 0)] [(0, 1, (.t 22)), (1, 1, (.t 23))]),
    .op (some 2) none (.mv (.c .nilp)),
    .op none none (.store 2 (.t 3) (.t 24))]
def c74r9 : List AStm := [.op (some 25) none (.bin .add (.t 13) (.c (.int .i64 1))),
    .op (some 13) none (.mv (.t 25))]
def c74l10 : AC := .seq (.reg c74r4) (.seq (.cond (.t 14) (.skip) (.exit 0)) (.seq (.block 1 (.seq (.reg c74r5) (.seq (.reg c74r6) (.seq (.reg c74r7) (.cond (.t 21) (.seq (.reg c74r8) (.ret)) (.skip)))))) (.reg c74r9)))
def c74r11 : List AStm := [.op (some 26) none (.mv (.t 0)),
    .call (some 27) none (.c (.fn (.func 94) [] [])) [(.t 26)],
    .op (some 28) none (.build [.nils, (.int .u32 0), (.int .i32 0), (.int .u32 0), .nilp] [(0, 1, (.t 27))]),
    .op (some 29) none (.box (.t 28)),
    .op (some 30) none (.build [(.int .i64 0), (.int .i64 0)] []),
    .op (some 2) none (.mv (.t 29)),
    .op none none (.store 2 (.t 3) (.t 30))]
def c74 : CF := ⟨.seq (.reg c74r0) (.seq (.seq (.reg c74r1) (.cond (.t 9) (.seq (.reg c74r2) (.ret)) (.skip))) (.seq (.seq (.reg c74r3) (.block 0 (.loop c74l10))) (.seq (.reg c74r11) (.ret)))), [.tmp 2, .cell 3 (some 2)], 31⟩
theorem cf74 : cfun Try.prog 74 = some c74 := by kernel_rfl

/-! ### weighbridge/shadow.fates, params 1 -/
def c75r0 : List AStm := [.op (some 2) none (.mv (.c .nils))]
def c75r1 : List AStm := [.op (some 8) none (.mv (.t 0)),
    .op (some 9) none (.len false (.t 8)),
    .op (some 10) none (.mks 2 16 [(.int .i64 0), (.int .i64 0)] (.t 9) (.t 9)),
    .op (some 3) none (.mv (.t 10))]
def c75r2 : List AStm := [.op (some 11) none (.mv (.t 0)),
    .op (some 12) none (.len false (.t 11)),
    .op (some 13) none (.mv (.c (.int .i64 0)))]
def c75r3 : List AStm := [.op (some 14) none (.bin .lss (.t 13) (.t 12))]
def c75r4 : List AStm := [.op (some 15) none (.mv (.t 13)),
    .op (some 16) none (.ixs 43 (.t 11) (.t 13)),
    .op (some 17) none (.load (some 43) (.t 16)),
    .op (some 5) none (.alloc [(.int .i64 0), (.int .u8 0), (.int .u8 0), (.int .u8 0), (.int .u8 0), (.int .u8 0), (.int .u8 0), (.int .u8 0), (.int .u8 0), (.int .u8 0), (.int .u8 0), (.int .u8 0), (.int .u8 0), (.int .u8 0), (.int .u8 0), (.int .u8 0), (.int .u8 0), (.int .i64 0), (.int .i64 0), (.int .u8 0), (.int .u8 0), (.int .u8 0), (.int .u8 0), (.int .u8 0), (.int .u8 0), (.int .u8 0), (.int .u8 0), (.int .u8 0), (.int .u8 0), (.int .u8 0), (.int .u8 0), (.int .u8 0), (.int .u8 0), (.int .u8 0), (.int .u8 0), (.int .i64 0), (.int .i64 0), (.int .i64 0), (.int .i64 0), (.int .i64 0), (.int .i64 0), (.int .i64 0), (.int .i64 0)]),
    .op (some 4) none (.mv (.t 15)),
    .op none none (.store 43 (.t 5) (.t 17))]
def c75r5 : List AStm := [.op (some 18) none (.load (some 43) (.t 5)),
    .call (some 19) none (.c (.fn (.func 46) [] [])) [(.t 18)]]
def c75r6 : List AStm := [.op (some 20) none (.mv (.t 3)),
    .op (some 21) none (.mv (.t 4)),
    .op (some 22) none (.mv (.t 4)),
    .op (some 23) none (.build [(.int .i64 0), (.int .i64 0)] [(0, 1, (.c (.int .i64 1))), (1, 1, (.t 22))]),
    .op (some 24) none (.ixs 2 (.t 20) (.t 21)),
    .op none none (.store 2 (.t 24) (.t 23))]
def c75r7 : List AStm := [.op (some 25) none (.mv (.t 0)),
    .op (some 26) none (.mv (.t 4)),
    .op (some 27) none (.slc 43 (.t 25) none (some (.t 26))),
    .op (some 28) none (.len false (.t 27)),
    .op (some 29) none (.mv (.c (.int .i64 0)))]
def c75r8 : List AStm := [.op (some 30) none (.bin .lss (.t 29) (.t 28))]
def c75r9 : List AStm := [.op (some 31) none (.mv (.t 29)),
    .op (some 32) none (.ixs 43 (.t 27) (.t 29)),
    .op (some 33) none (.load (some 43) (.t 32)),
    .op (some 7) none (.alloc [(.int .i64 0), (.int .u8 0), (.int .u8 0), (.int .u8 0), (.int .u8 0), (.int .u8 0), (.int .u8 0), (.int .u8 0), (.int .u8 0), (.int .u8 0), (.int .u8 0), (.int .u8 0), (.int .u8 0), (.int .u8 0), (.int .u8 0), (.int .u8 0), (.int .u8 0), (.int .i64 0), (.int .i64 0), (.int .u8 0), (.int .u8 0), (.int .u8 0), (.int .u8 0), (.int .u8 0), (.int .u8 0), (.int .u8 0), (.int .u8 0), (.int .u8 0), (.int .u8 0), (.int .u8 0), (.int .u8 0), (.int .u8 0), (.int .u8 0), (.int .u8 0), (.int .u8 0), (.int .i64 0), (.int .i64 0), (.int .i64 0), (.int .i64 0), (.int .i64 0), (.int .i64 0), (.int .i64 0), (.int .i64 0)]),
    .op (some 6) none (.mv (.t 31)),
    .op none none (.store 43 (.t 7) (.t 33))]
def c75r10 : List AStm := [.op (some 34) none (.load (some 43) (.t 7)),
    .op (some 35) none (.load (some 43) (.t 5)),
    .call (some 36) none (.c (.fn (.func 9) [] [])) [(.t 34), (.t 35)]]
def c75r11 : List AStm := [.op (some 37) none (.mv (.t 3)),
    .op (some 38) none (.mv (.t 4)),
    .op (some 39) none (.mv (.t 6)),
    .op (some 40) none (.build [(.int .i64 0), (.int .i64 0)] [(0, 1, (.c (.int .i64 2))), (1, 1, (.t 39))]),
    .op (some 41) none (.ixs 2 (.t 37) (.t 38)),
    .op none none (.store 2 (.t 41) (.t 40))]
def c75r12 : List AStm := [.op (some 42) none (.bin .add (.t 29) (.c (.int .i64 1))),
    .op (some 29) none (.mv (.t 42))]
def c75l13 : AC := .seq (.reg c75r8) (.seq (.cond (.t 30) (.skip) (.exit 2)) (.seq (.block 3 (.seq (.reg c75r9) (.seq (.reg c75r10) (.cond (.t 36) (.seq (.reg c75r11) (.exit 1)) (.skip))))) (.reg c75r12)))
def c75r14 : List AStm := [.op (some 43) none (.bin .add (.t 13) (.c (.int .i64 1))),
    .op (some 13) none (.mv (.t 43))]
def c75l15 : AC := .seq (.reg c75r3) (.seq (.cond (.t 14) (.skip) (.exit 0)) (.seq (.block 1 (.seq (.reg c75r4) (.seq (.seq (.reg c75r5) (.cond (.t 19) (.seq (.reg c75r6) (.exit 1)) (.skip))) (.seq (.reg c75r7) (.block 2 (.loop c75l13)))))) (.reg c75r14)))
def c75r16 : List AStm := [.op (some 44) none (.mv (.t 3)),
    .op (some 2) none (.mv (.t 44))]
def c75 : CF := ⟨.seq (.reg c75r0) (.scope (.seq (.reg c75r1) (.seq (.skip) (.seq (.seq (.reg c75r2) (.block 0 (.loop c75l15))) (.seq (.reg c75r16) (.ret)))))), [.tmp 2], 45⟩
theorem cf75 : cfun Try.prog 75 = some c75 := by kernel_rfl

/-! ### weighbridge/ports.Least, params 1 -/
def c76r0 : List AStm := [.op (some 2) none (.mv (.c (.int .i64 0)))]
def c76r1 : List AStm := [.op (some 3) none (.mv (.c (.int .i64 0)))]
def c76r2 : List AStm := [.op (some 4) none (.mv (.t 0))]
def c76r3 : List AStm := [.op (some 6) none (.bin .eql (.t 4) (.c (.int .i64 6))),
    .op (some 5) none (.mv (.t 6))]
def c76r4 : List AStm := [.op (some 8) none (.bin .eql (.t 4) (.c (.int .i64 132))),
    .op (some 7) none (.mv (.t 8))]
def c76r5 : List AStm := [.op (some 10) none (.bin .eql (.t 4) (.c (.int .i64 17))),
    .op (some 9) none (.mv (.t 10))]
def c76r6 : List AStm := [.op (some 11) none (.mv (.t 3)),
    .op (some 12) none (.bin .add (.t 11) (.c (.int .i64 8))),
    .op (some 3) none (.mv (.t 12))]
def c76r7 : List AStm := [.op (some 13) none (.mv (.t 3)),
    .op (some 14) none (.bin .add (.t 13) (.c (.int .i64 4))),
    .op (some 3) none (.mv (.t 14))]
def c76r8 : List AStm := [.op (some 15) none (.mv (.t 3)),
    .op (some 16) none (.bin .add (.t 15) (.c (.int .i64 8))),
    .op (some 3) none (.mv (.t 16))]
def c76r9 : List AStm := [.op (some 17) none (.mv (.t 3)),
    .op (some 2) none (.mv (.t 17))]
def c76 : CF := ⟨.seq (.reg c76r0) (.seq (.reg c76r1) (.seq (.seq (.reg c76r2) (.block 0 (.seq (.block 3 (.seq (.block 2 (.seq (.block 1 (.seq (.seq (.seq (.reg c76r3) (.cond (.t 5) (.exit 1) (.skip))) (.seq (.seq (.reg c76r4) (.cond (.t 7) (.exit 2) (.skip))) (.seq (.reg c76r5) (.cond (.t 9) (.exit 3) (.skip))))) (.exit 0))) (.reg c76r6))) (.reg c76r7))) (.seq (.reg c76r8) (.exit 0))))) (.seq (.reg c76r9) (.ret)))), [.tmp 2], 18⟩
theorem cf76 : cfun Try.prog 76 = some c76 := by kernel_rfl

/-! ### weighbridge/span.is, params 1 -/
def c77r0 : List AStm := [.op (some 2) none (.mv (.c (.bool false)))]
def c77r1 : List AStm := [.op (some 3) none (.mv (.t 0)),
    .op (some 4) none (.bin .geq (.t 3) (.c (.int .i64 0))),
    .op (some 5) none (.mv (.t 4)),
    .op (some 6) (some (5, true)) (.mv (.t 0)),
    .op (some 7) (some (5, true)) (.bin .leq (.t 6) (.c (.int .i64 65535))),
    .op (some 8) none (.pick (.t 5) (.t 7) (.c (.bool false))),
    .op (some 2) none (.mv (.t 8))]
def c77 : CF := ⟨.seq (.reg c77r0) (.seq (.reg c77r1) (.ret)), [.tmp 2], 9⟩
theorem cf77 : cfun Try.prog 77 = some c77 := by kernel_rfl

/-! ### slices.IndexFunc[[]weighbridge/api.Rule,weighbridge/api.Rule], params 2 -/
def c93r0 : List AStm := [.op (some 4) none (.mv (.c (.int .i64 0)))]
def c93r1 : List AStm := [.op (some 6) none (.mv (.t 0)),
    .op (some 7) none (.len false (.t 6)),
    .op (some 8) none (.mv (.c (.int .i64 0)))]
def c93r2 : List AStm := [.op (some 9) none (.bin .lss (.t 8) (.t 7))]
def c93r3 : List AStm := [.op (some 10) none (.mv (.t 8)),
    .op (some 5) none (.mv (.t 10))]
def c93r4 : List AStm := [.op (some 11) none (.mv (.t 1)),
    .op (some 12) none (.mv (.t 0)),
    .op (some 13) none (.mv (.t 5)),
    .op (some 14) none (.ixs 43 (.t 12) (.t 13)),
    .op (some 15) none (.load (some 43) (.t 14)),
    .call (some 16) none (.t 11) [(.t 15)]]
def c93r5 : List AStm := [.op (some 17) none (.mv (.t 5)),
    .op (some 4) none (.mv (.t 17))]
def c93r6 : List AStm := [.op (some 18) none (.bin .add (.t 8) (.c (.int .i64 1))),
    .op (some 8) none (.mv (.t 18))]
def c93l7 : AC := .seq (.reg c93r2) (.seq (.cond (.t 9) (.skip) (.exit 0)) (.seq (.block 1 (.seq (.reg c93r3) (.seq (.reg c93r4) (.cond (.t 16) (.seq (.reg c93r5) (.ret)) (.skip))))) (.reg c93r6)))
def c93r8 : List AStm := [.op (some 4) none (.mv (.c (.int .i64 (-1))))]
def c93 : CF := ⟨.seq (.reg c93r0) (.seq (.seq (.reg c93r1) (.block 0 (.loop c93l7))) (.seq (.reg c93r8) (.ret))), [.tmp 4], 19⟩
theorem cf93 : cfun Try.prog 93 = some c93 := by kernel_rfl

/-! ### slices.Clone[[]weighbridge/api.Rule,weighbridge/api.Rule], params 1 -/
def c94r0 : List AStm := [.op (some 2) none (.mv (.c .nils))]
def c94r1 : List AStm := [.op (some 3) none (.mv (.t 0)),
    .op (some 4) none (.isnil false 2 (.t 3))]
def c94r2 : List AStm := [.op (some 2) none (.mv (.c .nils))]
def c94r3 : List AStm := [.op (some 5) none (.bslice 43 [] 0 []),
    .op (some 6) none (.mv (.t 0)),
    .op (some 7) none (.append false 43 120 (.t 5) (.t 6)),
    .op (some 2) none (.mv (.t 7))]
def c94 : CF := ⟨.seq (.reg c94r0) (.seq (.seq (.reg c94r1) (.cond (.t 4) (.seq (.reg c94r2) (.ret)) (.skip))) (.seq (.reg c94r3) (.ret))), [.tmp 2], 8⟩
theorem cf94 : cfun Try.prog 94 = some c94 := by kernel_rfl


def intAt (l : List D) (i : Nat) : Int := match l[i]? with
  | some (.int _ n) => n
  | _ => 0
def bytesAt (l : List D) (i : Nat) : List UInt8 := ((l.drop i).take 16).map fun d => match d with
  | .int _ n => UInt8.ofNat n.toNat
  | _ => 0
def ruDec (l : List D) : Ru := ⟨intAt l 0, bytesAt l 1, intAt l 17, intAt l 18, bytesAt l 19, intAt l 35, intAt l 36, intAt l 37, intAt l 38, intAt l 39, intAt l 40, intAt l 41, intAt l 42⟩
def ruIs (l : List D) : Bool := beqL l (ru (ruDec l)) && (Nat.beq (ruDec l).sa.length 16 && Nat.beq (ruDec l).da.length 16)
theorem ruIs_ok {l : List D} (h : ruIs l = true) : l = ru (ruDec l) ∧ (ruDec l).Ok := by
  simp only [ruIs, Bool.and_eq_true] at h
  exact ⟨beqL_eq h.1, ⟨Nat.eq_of_beq_eq_true h.2.1, Nat.eq_of_beq_eq_true h.2.2⟩⟩
def rCheck : List D → Option D
  | [.agg l] => bif ruIs l then some (.int .i64 (ruChk (ruDec l))) else none
  | _ => none
def rWit : List D → Option D
  | [.agg l, .agg m] => bif ruIs l && ruIs m then some (.tup [.agg (ky (witK (ruDec l) (ruDec m))), .bool (witB (ruDec l) (ruDec m))]) else none
  | _ => none
def rCov : List D → Option D
  | [.agg l, .agg m] => bif ruIs l && ruIs m then some (.bool (coversF (ruDec l) (ruDec m))) else none
  | _ => none
theorem rCheck_ok (args : List D) (h : Heap) (d : D) (hr : rCheck args = some d) : FC Try.prog 13 args h fun d' h' => d' = d ∧ h' = h := by
  unfold rCheck at hr
  split at hr
  · rename_i l
    cases hb : ruIs l with
    | false => rw [hb] at hr; cases hr
    | true =>
      rw [hb] at hr
      simp only [cond_true, Option.some.injEq] at hr
      subst hr
      obtain ⟨e, ok⟩ := ruIs_ok hb
      have := rcheckP_fc h (ruDec l) ok
      rwa [← e] at this
  · cases hr
theorem two_ok {l m : List D} {x d : D} (hr : (bif ruIs l && ruIs m then some x else none) = some d) : d = x ∧ l = ru (ruDec l) ∧ (ruDec l).Ok ∧ m = ru (ruDec m) ∧ (ruDec m).Ok := by
  cases hb : (ruIs l && ruIs m) with
  | false => rw [hb] at hr; cases hr
  | true =>
    rw [hb] at hr
    simp only [cond_true, Option.some.injEq] at hr
    simp only [Bool.and_eq_true] at hb
    exact ⟨hr.symm, (ruIs_ok hb.1).1, (ruIs_ok hb.1).2, (ruIs_ok hb.2).1, (ruIs_ok hb.2).2⟩
theorem rWit_ok (args : List D) (h : Heap) (d : D) (hr : rWit args = some d) : FC Try.prog 11 args h fun d' h' => d' = d ∧ h' = h := by
  unfold rWit at hr
  split at hr
  · rename_i l m
    obtain ⟨rfl, e1, o1, e2, o2⟩ := two_ok hr
    have := witness_fc h (ruDec l) (ruDec m) o1 o2
    rwa [← e1, ← e2] at this
  · cases hr
theorem rCov_ok (args : List D) (h : Heap) (d : D) (hr : rCov args = some d) : FC Try.prog 9 args h fun d' h' => d' = d ∧ h' = h := by
  unfold rCov at hr
  split at hr
  · rename_i l m
    obtain ⟨rfl, e1, o1, e2, o2⟩ := two_ok hr
    have := covers_fc h (ruDec l) (ruDec m) o1 o2
    rwa [← e1, ← e2] at this
  · cases hr
def orc23 : Ytodlpcoffmnmbaa.Callee := orcOf 13 rCheck (orcOf 11 rWit (orcOf 9 rCov noOrc))
theorem orc23_ok : CallOk Try.prog orc23 := orcOf_ok rCheck_ok (orcOf_ok rWit_ok (orcOf_ok rCov_ok noOrc_ok))
def live23_tab : List (FuncId × CF) := [(9, c9), (10, c10), (11, c11), (12, c12), (13, c13), (16, c16), (22, c22), (27, c27), (29, c29), (30, c30), (33, c33), (35, c35), (38, c38), (39, c39), (40, c40), (41, c41), (42, c42), (43, c43), (44, c44), (45, c45), (46, c46), (47, c47), (48, c48), (49, c49), (56, c56), (57, c57), (60, c60), (61, c61), (71, c71), (72, c72), (73, c73), (74, c74), (75, c75), (76, c76), (77, c77), (93, c93), (94, c94)]
theorem live23_ok : ∀ p ∈ live23_tab, cfun Try.prog p.1 = some p.2 := by
  intro p hp
  simp only [live23_tab, List.mem_cons, List.not_mem_nil, or_false] at hp
  rcases hp with rfl | rfl | rfl | rfl | rfl | rfl | rfl | rfl | rfl | rfl | rfl | rfl | rfl | rfl | rfl | rfl | rfl | rfl | rfl | rfl | rfl | rfl | rfl | rfl | rfl | rfl | rfl | rfl | rfl | rfl | rfl | rfl | rfl | rfl | rfl | rfl | rfl
  · exact cf9
  · exact cf10
  · exact cf11
  · exact cf12
  · exact cf13
  · exact cf16
  · exact cf22
  · exact cf27
  · exact cf29
  · exact cf30
  · exact cf33
  · exact cf35
  · exact cf38
  · exact cf39
  · exact cf40
  · exact cf41
  · exact cf42
  · exact cf43
  · exact cf44
  · exact cf45
  · exact cf46
  · exact cf47
  · exact cf48
  · exact cf49
  · exact cf56
  · exact cf57
  · exact cf60
  · exact cf61
  · exact cf71
  · exact cf72
  · exact cf73
  · exact cf74
  · exact cf75
  · exact cf76
  · exact cf77
  · exact cf93
  · exact cf94
theorem live23_run : saysTrue (callee orc23 (tabOf live23_tab) 300 12 [] []) = true := by kernel_rfl
theorem live23 (h : Heap) : FC Try.prog 12 [] h fun d h' => d = .bool true ∧ h' = h := live_of' hmix orc23_ok live23_ok live23_run rfl h

end Go.Proofs.L23

/-
  Own work. The walk of ShadowWhy.
-/
namespace Go.Proofs
open Go Go.Ytodlpcoffmnmbaa
set_option linter.unusedVariables false
set_option linter.unusedSimpArgs false
set_option maxRecDepth 10000

/-! ### weighbridge/weighbridgelaw23.ShadowWhy, params 2 -/
def c4r0 : List AStm := [.op (some 2) none (.box (.t 0)),
    .op (some 3) none (.box (.t 1)),
    .op (some 4) none (.mv (.c (.bool false)))]
def c4r1 : List AStm := [.op (some 8) none (.load (some 43) (.t 2)),
    .op (some 9) none (.load (some 38) (.t 3)),
    .call (some 10) none (.c (.fn (.func 14) [] [])) [(.t 8), (.t 9)],
    .op (some 5) none (.mv (.t 10))]
def c4r2 : List AStm := [.op (some 11) none (.mv (.t 5)),
    .op (some 12) none (.load (some 43) (.t 2)),
    .op (some 13) none (.load (some 38) (.t 3)),
    .call (some 14) none (.c (.fn (.func 15) [] [])) [(.t 12), (.t 13)],
    .op (some 15) none (.bin .neq (.t 11) (.t 14)),
    .op (some 16) none (.mv (.t 15)),
    .op (some 17) (some (16, false)) (.mv (.t 5)),
    .op (some 18) (some (16, false)) (.bin .eql (.t 17) (.c (.int .i64 (-1)))),
    .op (some 19) (some (16, false)) (.load (some 43) (.t 2)),
    .op (some 20) (some (16, false)) (.load (some 38) (.t 3)),
    .call (some 21) (some (16, false)) (.c (.fn (.func 8) [] [])) [(.t 19), (.t 20)],
    .op (some 22) (some (16, false)) (.eqb true (.t 18) (.t 21)),
    .op (some 23) none (.pick (.t 16) (.c (.bool true)) (.t 22)),
    .op (some 24) none (.mv (.t 23)),
    .op (some 25) (some (24, false)) (.mv (.t 5)),
    .op (some 26) (some (24, false)) (.bin .eql (.t 25) (.c (.int .i64 (-2)))),
    .op (some 27) (some (24, false)) (.load (some 43) (.t 2)),
    .call (some 28) (some (24, false)) (.c (.fn (.func 13) [] [])) [(.t 27)],
    .op (some 29) (some (24, false)) (.bin .neq (.t 28) (.c (.int .i64 0))),
    .op (some 30) (some (24, false)) (.eqb true (.t 26) (.t 29)),
    .op (some 31) none (.pick (.t 24) (.c (.bool true)) (.t 30))]
def c4r3 : List AStm := [.op (some 4) none (.mv (.c (.bool false)))]
def c4r4 : List AStm := [.op (some 32) none (.faddr 0 (.t 2)),
    .op (some 33) none (.faddr 0 (.t 32)),
    .op (some 34) none (.load none (.t 33)),
    .op (some 35) none (.faddr 42 (.t 2)),
    .op (some 36) none (.load none (.t 35)),
    .call (some 37) none (.c (.fn (.func 16) [] [])) [(.t 34), (.t 36)],
    .op (some 6) none (.alloc [(.int .i64 0), (.int .u8 0), (.int .u8 0), (.int .u8 0), (.int .u8 0), (.int .u8 0), (.int .u8 0), (.int .u8 0), (.int .u8 0), (.int .u8 0), (.int .u8 0), (.int .u8 0), (.int .u8 0), (.int .u8 0), (.int .u8 0), (.int .u8 0), (.int .u8 0), (.int .i64 0), (.int .i64 0), (.int .u8 0), (.int .u8 0), (.int .u8 0), (.int .u8 0), (.int .u8 0), (.int .u8 0), (.int .u8 0), (.int .u8 0), (.int .u8 0), (.int .u8 0), (.int .u8 0), (.int .u8 0), (.int .u8 0), (.int .u8 0), (.int .u8 0), (.int .u8 0), (.int .i64 0), (.int .i64 0), (.int .i64 0), (.int .i64 0), (.int .i64 0), (.int .i64 0), (.int .i64 0), (.int .i64 0)]),
    .op none none (.store 43 (.t 6) (.t 37))]
def c4r5 : List AStm := [.op (some 38) none (.mv (.t 5))]
def c4r6 : List AStm := [.op (some 49) none (.bin .eql (.t 38) (.c (.int .i64 2))),
    .op (some 48) none (.mv (.t 49))]
def c4r7 : List AStm := [.op (some 50) none (.faddr 36 (.t 6)),
    .op (some 51) none (.load (some 2) (.t 50)),
    .op (some 52) none (.faddr 36 (.t 2)),
    .op none none (.store 2 (.t 52) (.t 51))]
def c4r8 : List AStm := [.op (some 54) none (.bin .eql (.t 38) (.c (.int .i64 3))),
    .op (some 53) none (.mv (.t 54))]
def c4r9 : List AStm := [.op (some 55) none (.faddr 38 (.t 6)),
    .op (some 56) none (.load (some 2) (.t 55)),
    .op (some 57) none (.faddr 38 (.t 2)),
    .op none none (.store 2 (.t 57) (.t 56))]
def c4r10 : List AStm := [.op (some 59) none (.bin .eql (.t 38) (.c (.int .i64 4))),
    .op (some 58) none (.mv (.t 59))]
def c4r11 : List AStm := [.op (some 60) none (.faddr 40 (.t 2)),
    .op none none (.store 1 (.t 60) (.c (.int .i64 (-1))))]
def c4r12 : List AStm := [.op (some 62) none (.bin .eql (.t 38) (.c (.int .i64 5))),
    .op (some 61) none (.mv (.t 62))]
def c4r13 : List AStm := [.op (some 63) none (.faddr 41 (.t 2)),
    .op none none (.store 1 (.t 63) (.c (.int .i64 (-1))))]
def c4r14 : List AStm := [.call (some 39) none (.c (.fn (.func 12) [] [])) [],
    .op (some 40) none (.mv (.t 39)),
    .op (some 41) (some (40, true)) (.mv (.t 5)),
    .op (some 42) (some (40, true)) (.bin .geq (.t 41) (.c (.int .i64 (-2)))),
    .op (some 43) none (.pick (.t 40) (.t 42) (.c (.bool false))),
    .op (some 44) none (.mv (.t 43)),
    .op (some 45) (some (44, true)) (.mv (.t 5)),
    .op (some 46) (some (44, true)) (.bin .lss (.t 45) (.c (.int .i64 6))),
    .op (some 47) none (.pick (.t 44) (.t 46) (.c (.bool false))),
    .op (some 4) none (.mv (.t 47))]
def c4r15 : List AStm := [.op (some 64) none (.load (some 43) (.t 2)),
    .op (some 65) none (.load (some 38) (.t 3)),
    .call (some 66) none (.c (.fn (.func 14) [] [])) [(.t 64), (.t 65)],
    .op (some 7) none (.mv (.t 66))]
def c4r16 : List AStm := [.call (some 67) none (.c (.fn (.func 12) [] [])) [],
    .op (some 68) none (.mv (.t 67)),
    .op (some 69) (some (68, true)) (.mv (.t 7)),
    .op (some 70) (some (68, true)) (.bin .eql (.t 69) (.c (.int .i64 (-1)))),
    .op (some 71) (some (68, true)) (.mv (.t 70)),
    .op (some 72) (some (71, false)) (.mv (.t 7)),
    .op (some 73) (some (71, false)) (.mv (.t 5)),
    .op (some 74) (some (71, false)) (.bin .gtr (.t 72) (.t 73)),
    .op (some 75) (some (68, true)) (.pick (.t 71) (.c (.bool true)) (.t 74)),
    .op (some 76) none (.pick (.t 68) (.t 75) (.c (.bool false))),
    .op (some 4) none (.mv (.t 76))]
def c4 : CF := ⟨.seq (.reg c4r0) (.seq (.reg c4r1) (.seq (.seq (.reg c4r2) (.cond (.t 31) (.seq (.reg c4r3) (.ret)) (.skip))) (.seq (.reg c4r4) (.seq (.seq (.reg c4r5) (.block 0 (.seq (.reg c4r6) (.cond (.t 48) (.reg c4r7) (.seq (.reg c4r8) (.cond (.t 53) (.reg c4r9) (.seq (.reg c4r10) (.cond (.t 58) (.reg c4r11) (.seq (.reg c4r12) (.cond (.t 61) (.reg c4r13) (.seq (.reg c4r14) (.ret)))))))))))) (.seq (.reg c4r15) (.seq (.reg c4r16) (.ret))))))), [.tmp 4], 77⟩
theorem cf4 : cfun Try.prog 4 = some c4 := by kernel_rfl



/-! ### Plain laws -/
theorem firstNot_range (b0 b1 b2 b3 b4 b5 : Bool) : -1 ≤ firstNot [b0, b1, b2, b3, b4, b5] 0 ∧ firstNot [b0, b1, b2, b3, b4, b5] 0 < 6 := by
  cases b0 <;> cases b1 <;> cases b2 <;> cases b3 <;> cases b4 <;> cases b5 <;> simp [firstNot]
theorem firstNot_none (b0 b1 b2 b3 b4 b5 : Bool) : firstNot [b0, b1, b2, b3, b4, b5] 0 = -1 ↔ (b0 = true ∧ b1 = true ∧ b2 = true ∧ b3 = true ∧ b4 = true ∧ b5 = true) := by
  cases b0 <;> cases b1 <;> cases b2 <;> cases b3 <;> cases b4 <;> cases b5 <;> simp [firstNot]
theorem firstNot_2 (b0 b1 b2 b3 b4 b5 : Bool) (h : firstNot [b0, b1, b2, b3, b4, b5] 0 = 2) : firstNot [b0, b1, true, b3, b4, b5] 0 = -1 ∨ 2 < firstNot [b0, b1, true, b3, b4, b5] 0 := by
  revert h; cases b0 <;> cases b1 <;> cases b2 <;> cases b3 <;> cases b4 <;> cases b5 <;> simp [firstNot]
theorem firstNot_3 (b0 b1 b2 b3 b4 b5 : Bool) (h : firstNot [b0, b1, b2, b3, b4, b5] 0 = 3) : firstNot [b0, b1, b2, true, b4, b5] 0 = -1 ∨ 3 < firstNot [b0, b1, b2, true, b4, b5] 0 := by
  revert h; cases b0 <;> cases b1 <;> cases b2 <;> cases b3 <;> cases b4 <;> cases b5 <;> simp [firstNot]
theorem firstNot_4 (b0 b1 b2 b3 b4 b5 : Bool) (h : firstNot [b0, b1, b2, b3, b4, b5] 0 = 4) : firstNot [b0, b1, b2, b3, true, b5] 0 = -1 ∨ 4 < firstNot [b0, b1, b2, b3, true, b5] 0 := by
  revert h; cases b0 <;> cases b1 <;> cases b2 <;> cases b3 <;> cases b4 <;> cases b5 <;> simp [firstNot]
theorem firstNot_5 (b0 b1 b2 b3 b4 b5 : Bool) (h : firstNot [b0, b1, b2, b3, b4, b5] 0 = 5) : firstNot [b0, b1, b2, b3, b4, true] 0 = -1 ∨ 5 < firstNot [b0, b1, b2, b3, b4, true] 0 := by
  revert h; cases b0 <;> cases b1 <;> cases b2 <;> cases b3 <;> cases b4 <;> cases b5 <;> simp [firstNot]
theorem whyF_match (r : Ru) (k : Ky) : decide (whyF r k = -1) = ruMatch r k := by
  rw [Bool.eq_iff_iff, decide_eq_true_eq, match_iff, whyF]
  split
  · rename_i h
    rw [whyL, firstNot_none]; simp [h]
  · rename_i h
    simp [h]
theorem whyF_bad (r : Ru) (k : Ky) : decide (whyF r k = -2) = !decide (ruChk r = 0) := by
  rw [whyF]
  split
  · rename_i h
    have := firstNot_range (hasF r.sv r.sa r.sn k.v k.s) (hasF r.dv r.da r.dn k.v k.d) (portOk r.slo r.shi k.ports k.sp) (portOk r.dlo r.dhi k.ports k.dp) (wishOk r.proto k.proto) (wishOk r.dscp k.dscp)
    rw [decide_eq_false (by rw [whyL]; omega)]; simp [h]
  · rename_i h; simp [h]
theorem whyF_range (r : Ru) (k : Ky) : -2 ≤ whyF r k ∧ whyF r k < 6 := by
  rw [whyF]
  split
  · have := firstNot_range (hasF r.sv r.sa r.sn k.v k.s) (hasF r.dv r.da r.dn k.v k.d) (portOk r.slo r.shi k.ports k.sp) (portOk r.dlo r.dhi k.ports k.dp) (wishOk r.proto k.proto) (wishOk r.dscp k.dscp)
    rw [whyL]; omega
  · omega
/-- Where nothing is said of what a rule asks, it may be as before. -/
theorem chk_free {r r' : Ru} (h : ruChk r = 0) (h1 : r'.sv = r.sv) (h2 : r'.sa = r.sa) (h3 : r'.sn = r.sn) (h4 : r'.dv = r.dv) (h5 : r'.da = r.da) (h6 : r'.dn = r.dn) (h7 : spanChk r'.slo r'.shi = 0) (h8 : spanChk r'.dlo r'.dhi = 0)
    (h9 : -1 ≤ r'.proto ∧ r'.proto ≤ 255) (h10 : -1 ≤ r'.dscp ∧ r'.dscp ≤ 63) (h11 : r'.cls = r.cls) : ruChk r' = 0 := by
  have f := ru_facts h
  obtain ⟨f1, f2, f3, f4, f5, f6, f7, f8⟩ := f
  unfold ruChk
  rw [h1, h2, h3, h4, h5, h6, h7, h8, h11, if_neg (fun x => x f1), if_neg (fun x => x f2), if_neg (fun x => x f3), if_neg (fun x => x rfl), if_neg (fun x => x rfl), if_neg (by omega), if_neg (by omega), if_neg (by omega)]
theorem whyF_ok {r : Ru} {k : Ky} {n : Int} (h : whyF r k = n) (hn : n ≠ -2) : ruChk r = 0 ∧ firstNot (whyL r k) 0 = n := by
  rw [whyF] at h
  split at h
  · rename_i hc; exact ⟨hc, h⟩
  · exact absurd h.symm hn
theorem port_free (p : Bool) (n : Int) : portOk 0 65535 p n = true := by simp [portOk]
theorem wish_free (n : Int) : wishOk (-1) n = true := by simp [wishOk]
def ruS (r : Ru) : Ru := { r with slo := 0, shi := 65535 }
def ruD (r : Ru) : Ru := { r with dlo := 0, dhi := 65535 }
def ruP (r : Ru) : Ru := { r with proto := -1 }
def ruC (r : Ru) : Ru := { r with dscp := -1 }
theorem why_2 {r : Ru} {k : Ky} (h : whyF r k = 2) : whyF (ruS r) k = -1 ∨ 2 < whyF (ruS r) k := by
  obtain ⟨hc, hf⟩ := whyF_ok h (by omega)
  have f := ru_facts hc
  rw [whyF, if_pos (chk_free (r' := ruS r) hc rfl rfl rfl rfl rfl rfl rfl f.dp f.pr f.ds rfl)]
  have := firstNot_2 _ _ _ _ _ _ hf
  rw [whyL]; simp only [ruS, port_free]; exact this
theorem why_3 {r : Ru} {k : Ky} (h : whyF r k = 3) : whyF (ruD r) k = -1 ∨ 3 < whyF (ruD r) k := by
  obtain ⟨hc, hf⟩ := whyF_ok h (by omega)
  have f := ru_facts hc
  rw [whyF, if_pos (chk_free (r' := ruD r) hc rfl rfl rfl rfl rfl rfl f.sp rfl f.pr f.ds rfl)]
  have := firstNot_3 _ _ _ _ _ _ hf
  rw [whyL]; simp only [ruD, port_free]; exact this
theorem why_4 {r : Ru} {k : Ky} (h : whyF r k = 4) : whyF (ruP r) k = -1 ∨ 4 < whyF (ruP r) k := by
  obtain ⟨hc, hf⟩ := whyF_ok h (by omega)
  have f := ru_facts hc
  rw [whyF, if_pos (chk_free (r' := ruP r) hc rfl rfl rfl rfl rfl rfl f.sp f.dp (by simp [ruP]) f.ds rfl)]
  have := firstNot_4 _ _ _ _ _ _ hf
  rw [whyL]; simp only [ruP, wish_free]; exact this
theorem why_5 {r : Ru} {k : Ky} (h : whyF r k = 5) : whyF (ruC r) k = -1 ∨ 5 < whyF (ruC r) k := by
  obtain ⟨hc, hf⟩ := whyF_ok h (by omega)
  have f := ru_facts hc
  rw [whyF, if_pos (chk_free (r' := ruC r) hc rfl rfl rfl rfl rfl rfl f.sp f.dp f.pr (by simp [ruC]) rfl)]
  have := firstNot_5 _ _ _ _ _ _ hf
  rw [whyL]; simp only [ruC, wish_free]; exact this

/-! ### A rule's cells, written -/
theorem ru_split (r : Ru) : ru r = (pc r.sv r.sa r.sn ++ pc r.dv r.da r.dn) ++ ruT r := by rw [ru, List.append_assoc]
theorem ru_set {r : Ru} (ok : r.Ok) (j : Nat) (v : D) : (ru r).set (36 + j) v = (pc r.sv r.sa r.sn ++ pc r.dv r.da r.dn) ++ (ruT r).set j v := by
  have hl : (pc r.sv r.sa r.sn ++ pc r.dv r.da r.dn).length = 36 := by rw [List.length_append, pc_len ok.s, pc_len ok.d]
  rw [ru_split, List.set_append_right _ _ (by omega), hl, Nat.add_sub_cancel_left]
theorem ru_set40 {r : Ru} (ok : r.Ok) : (ru r).set 40 (.int .i64 (-1)) = ru (ruP r) := by
  rw [show 40 = 36 + 4 from rfl, ru_set ok, ru_split]; rfl
theorem ru_set41 {r : Ru} (ok : r.Ok) : (ru r).set 41 (.int .i64 (-1)) = ru (ruC r) := by
  rw [show 41 = 36 + 5 from rfl, ru_set ok, ru_split]; rfl
theorem ru_splice {r : Ru} (ok : r.Ok) (j : Nat) (hj : j ≤ 5) (a b : D) : splice (ru r) (36 + j) [a, b] = (pc r.sv r.sa r.sn ++ pc r.dv r.da r.dn) ++ ((ruT r).take j ++ a :: b :: (ruT r).drop (j + 2)) := by
  have hl : (pc r.sv r.sa r.sn ++ pc r.dv r.da r.dn).length = 36 := by rw [List.length_append, pc_len ok.s, pc_len ok.d]
  rw [splice_eq _ _ _ (by rw [ru_len ok]; simp only [List.length_cons, List.length_nil]; omega)]
  rw [ru_split, List.take_append, List.drop_append, hl, List.take_of_length_le (by omega), List.drop_of_length_le (by simp only [List.length_cons, List.length_nil]; omega), Nat.add_sub_cancel_left, List.nil_append]
  simp only [List.length_cons, List.length_nil]
  rw [show 36 + j + (0 + 1 + 1) - 36 = j + 2 by omega]
  simp only [List.append_assoc, List.cons_append, List.nil_append]
theorem ru_sp36 {r : Ru} (ok : r.Ok) : splice (ru r) 36 [.int .i64 0, .int .i64 65535] = ru (ruS r) := by
  have := ru_splice ok 0 (by omega) (.int .i64 0) (.int .i64 65535)
  rw [Nat.add_zero] at this
  rw [this, ru_split]; rfl
theorem ru_sp38 {r : Ru} (ok : r.Ok) : splice (ru r) 38 [.int .i64 0, .int .i64 65535] = ru (ruD r) := by
  have := ru_splice ok 2 (by omega) (.int .i64 0) (.int .i64 65535)
  rw [show 36 + 2 = 38 from rfl] at this
  rw [this, ru_split]; rfl

theorem why_law (h : Heap) (r : Ru) (k : Ky) (ok : r.Ok) (kok : k.Ok) : FC Try.prog 4 [.agg (ru r), .agg (ky k)] h fun d h' => d = .bool true ∧ h' = h := by
  have lr := ru_len ok
  have lk := ky_len kok
  have r1 := ru_one ok
  have rt := ru_take ok
  have kt := ky_take kok
  have k1 := ky_one kok
  have la := ru_len (ruAny_ok r.sv r.cls)
  have a1 := ru_one (ruAny_ok r.sv r.cls)
  have at' := ru_take (ruAny_ok r.sv r.cls)
  have p36 : ((ru (ruAny r.sv r.cls)).drop 36).take 2 = [.int .i64 0, .int .i64 65535] := by rw [ru_d36 (ruAny_ok _ _)]; rfl
  have l36 : 2 ≤ ((ru (ruAny r.sv r.cls)).drop 36).length := by rw [List.length_drop, la]; omega
  have p38 : ((ru (ruAny r.sv r.cls)).drop 38).take 2 = [.int .i64 0, .int .i64 65535] := by rw [ru_d38 (ruAny_ok _ _)]; rfl
  have l38 : 2 ≤ ((ru (ruAny r.sv r.cls)).drop 38).length := by rw [List.length_drop, la]; omega
  have os' : (ruS r).Ok := ⟨ok.s, ok.d⟩
  have od' : (ruD r).Ok := ⟨ok.s, ok.d⟩
  have op' : (ruP r).Ok := ⟨ok.s, ok.d⟩
  have oc' : (ruC r).Ok := ⟨ok.s, ok.d⟩
  have os := ru_take os'
  have od := ru_take od'
  have op := ru_take op'
  have oc := ru_take oc'
  have ls := ru_len os'
  have ld := ru_len od'
  have lp := ru_len op'
  have lc := ru_len oc'
  refine FC.goes cf4 ?_; simp only [c4]; simp only [List.length_cons, List.length_nil, Nat.reduceAdd, Nat.reduceSub, List.replicate_succ, List.replicate_zero, List.cons_append, List.nil_append]
  simp (disch := first | omega | (simp only [List.length_append, List.length_cons, List.length_nil]; omega)) only [c4r0, c4r1, c4r2, c4r3, c4r4, c4r5, c4r6, c4r7, c4r8, c4r9, c4r10, c4r11, c4r12, c4r13, c4r14, c4r15, c4r16, lr, r1, rt, kt, lk, k1, go_sem, ↓reduceIte, reduceCtorEq, Nat.reduceAdd, Nat.reduceSub, Nat.reducePow, Nat.reduceMul, Nat.reduceEqDiff, Nat.reduceLT, Nat.reduceLeDiff, Int.reduceToNat, Int.reduceLT, Int.reduceLE, Int.reduceEq, Int.reduceNeg, Int.reduceAdd, Int.reduceSub, Int.reduceMul]
  refine gfc_same (why_fc _ r ok k kok) ?_
  simp (disch := first | omega | (simp only [List.length_append, List.length_cons, List.length_nil]; omega)) only [lr, r1, rt, kt, lk, k1, go_sem, ↓reduceIte, reduceCtorEq, Nat.reduceAdd, Nat.reduceSub, Nat.reducePow, Nat.reduceMul, Nat.reduceEqDiff, Nat.reduceLT, Nat.reduceLeDiff, Int.reduceToNat, Int.reduceLT, Int.reduceLE, Int.reduceEq, Int.reduceNeg, Int.reduceAdd, Int.reduceSub, Int.reduceMul]
  refine gfc_same (rwhy_fc _ r ok k kok) ?_
  simp (disch := first | omega | (simp only [List.length_append, List.length_cons, List.length_nil]; omega)) only [lr, r1, rt, kt, lk, k1, bool_same, go_sem, ↓reduceIte, reduceCtorEq, Nat.reduceAdd, Nat.reduceSub, Nat.reducePow, Nat.reduceMul, Nat.reduceEqDiff, Nat.reduceLT, Nat.reduceLeDiff, Int.reduceToNat, Int.reduceLT, Int.reduceLE, Int.reduceEq, Int.reduceNeg, Int.reduceAdd, Int.reduceSub, Int.reduceMul]
  refine gfc_same (matches_fc _ r ok k kok) ?_
  have w1 := whyF_match r k
  have w2 := whyF_bad r k
  rw [← w1]
  simp (disch := first | omega | (simp only [List.length_append, List.length_cons, List.length_nil]; omega)) only [lr, r1, rt, kt, lk, k1, bool_same, go_sem, ↓reduceIte, reduceCtorEq, Nat.reduceAdd, Nat.reduceSub, Nat.reducePow, Nat.reduceMul, Nat.reduceEqDiff, Nat.reduceLT, Nat.reduceLeDiff, Int.reduceToNat, Int.reduceLT, Int.reduceLE, Int.reduceEq, Int.reduceNeg, Int.reduceAdd, Int.reduceSub, Int.reduceMul]
  refine gfc_same (rcheckP_fc _ r ok) ?_
  have w4 := whyF_range r k
  have v2 := why_2 (r := r) (k := k)
  have v3 := why_3 (r := r) (k := k)
  have v4 := why_4 (r := r) (k := k)
  have v5 := why_5 (r := r) (k := k)
  have fin : ∀ (H : Heap) (d : D), d = .bool true → FinOk h (h ++ H) [d] fun d h' => d = .bool true ∧ h' = h := by
    rintro H d rfl
    exact FinOk.drop (.inl rfl) rfl ⟨rfl, rfl⟩
  generalize whyF r k = n at *
  have hn : n = -2 ∨ n = -1 ∨ n = 0 ∨ n = 1 ∨ n = 2 ∨ n = 3 ∨ n = 4 ∨ n = 5 := by omega
  cases hc : decide (ruChk r = 0) with
  | true =>
    rw [hc] at w2
    have h2 : n ≠ -2 := by simpa using w2
    rcases hn with rfl | rfl | rfl | rfl | rfl | rfl | rfl | rfl
    · exact absurd rfl h2
    all_goals simp (disch := first | omega | (simp only [List.length_append, List.length_cons, List.length_nil]; omega)) only [hc, lr, ru_0, ru_d42, ruT, ok, go_sem, fill_c, ↓reduceIte, reduceCtorEq, Nat.reduceAdd, Nat.reduceSub, Nat.reducePow, Nat.reduceMul, Nat.reduceEqDiff, Nat.reduceLT, Nat.reduceLeDiff, Int.reduceToNat, Int.reduceLT, Int.reduceLE, Int.reduceEq, Int.reduceNeg, Int.reduceAdd, Int.reduceSub, Int.reduceMul]
    all_goals refine gfc_same (any_fc _ r.sv r.cls) ?_
    all_goals simp (disch := first | omega | (simp only [List.length_append, List.length_cons, List.length_nil]; omega)) only [lr, r1, rt, lk, kt, k1, la, a1, at', p36, l36, p38, l38, os, od, op, oc, ru_sp36, ru_sp38, ru_set40, ru_set41, ok, ls, ld, lp, lc, go_sem, fill_c, ↓reduceIte, reduceCtorEq, Nat.reduceAdd, Nat.reduceSub, Nat.reducePow, Nat.reduceMul, Nat.reduceEqDiff, Nat.reduceLT, Nat.reduceLeDiff, Int.reduceToNat, Int.reduceLT, Int.reduceLE, Int.reduceEq, Int.reduceNeg, Int.reduceAdd, Int.reduceSub, Int.reduceMul]
    all_goals try (refine gfc_same (L23.live23 _) ?_; simp (disch := first | omega | (simp only [List.length_append, List.length_cons, List.length_nil]; omega)) only [go_sem, fill_c, ↓reduceIte, reduceCtorEq, Nat.reduceAdd, Nat.reduceSub, Nat.reducePow, Nat.reduceMul, Nat.reduceEqDiff, Nat.reduceLT, Nat.reduceLeDiff, Int.reduceToNat, Int.reduceLT, Int.reduceLE, Int.reduceEq, Int.reduceNeg, Int.reduceAdd, Int.reduceSub, Int.reduceMul]; exact fin _ _ rfl)
    · refine gfc_same (why_fc _ (ruS r) os' k kok) ?_
      have hv := v2 rfl
      generalize whyF (ruS r) k = m at *
      simp (disch := first | omega | (simp only [List.length_append, List.length_cons, List.length_nil]; omega)) only [lr, r1, rt, lk, kt, k1, la, a1, at', p36, l36, p38, l38, os, od, op, oc, ru_sp36, ru_sp38, ru_set40, ru_set41, ok, ls, ld, lp, lc, go_sem, fill_c, ↓reduceIte, reduceCtorEq, Nat.reduceAdd, Nat.reduceSub, Nat.reducePow, Nat.reduceMul, Nat.reduceEqDiff, Nat.reduceLT, Nat.reduceLeDiff, Int.reduceToNat, Int.reduceLT, Int.reduceLE, Int.reduceEq, Int.reduceNeg, Int.reduceAdd, Int.reduceSub, Int.reduceMul]
      refine gfc_same (L23.live23 _) ?_
      by_cases hm : m = -1
      · have e0 : decide (m = -1) = true := decide_eq_true hm
        simp (disch := first | omega | (simp only [List.length_append, List.length_cons, List.length_nil]; omega)) only [e0, go_sem, fill_c, ↓reduceIte, reduceCtorEq, Nat.reduceAdd, Nat.reduceSub, Nat.reducePow, Nat.reduceMul, Nat.reduceEqDiff, Nat.reduceLT, Nat.reduceLeDiff, Int.reduceToNat, Int.reduceLT, Int.reduceLE, Int.reduceEq, Int.reduceNeg, Int.reduceAdd, Int.reduceSub, Int.reduceMul]
        exact fin _ _ rfl
      · have hm2 : 2 < m := hv.resolve_left hm
        simp (disch := first | omega | (simp only [List.length_append, List.length_cons, List.length_nil]; omega)) only [hm, hm2, go_sem, fill_c, ↓reduceIte, reduceCtorEq, Nat.reduceAdd, Nat.reduceSub, Nat.reducePow, Nat.reduceMul, Nat.reduceEqDiff, Nat.reduceLT, Nat.reduceLeDiff, Int.reduceToNat, Int.reduceLT, Int.reduceLE, Int.reduceEq, Int.reduceNeg, Int.reduceAdd, Int.reduceSub, Int.reduceMul]
        exact fin _ _ rfl
    · refine gfc_same (why_fc _ (ruD r) od' k kok) ?_
      have hv := v3 rfl
      generalize whyF (ruD r) k = m at *
      simp (disch := first | omega | (simp only [List.length_append, List.length_cons, List.length_nil]; omega)) only [lr, r1, rt, lk, kt, k1, la, a1, at', p36, l36, p38, l38, os, od, op, oc, ru_sp36, ru_sp38, ru_set40, ru_set41, ok, ls, ld, lp, lc, go_sem, fill_c, ↓reduceIte, reduceCtorEq, Nat.reduceAdd, Nat.reduceSub, Nat.reducePow, Nat.reduceMul, Nat.reduceEqDiff, Nat.reduceLT, Nat.reduceLeDiff, Int.reduceToNat, Int.reduceLT, Int.reduceLE, Int.reduceEq, Int.reduceNeg, Int.reduceAdd, Int.reduceSub, Int.reduceMul]
      refine gfc_same (L23.live23 _) ?_
      by_cases hm : m = -1
      · have e0 : decide (m = -1) = true := decide_eq_true hm
        simp (disch := first | omega | (simp only [List.length_append, List.length_cons, List.length_nil]; omega)) only [e0, go_sem, fill_c, ↓reduceIte, reduceCtorEq, Nat.reduceAdd, Nat.reduceSub, Nat.reducePow, Nat.reduceMul, Nat.reduceEqDiff, Nat.reduceLT, Nat.reduceLeDiff, Int.reduceToNat, Int.reduceLT, Int.reduceLE, Int.reduceEq, Int.reduceNeg, Int.reduceAdd, Int.reduceSub, Int.reduceMul]
        exact fin _ _ rfl
      · have hm2 : 3 < m := hv.resolve_left hm
        simp (disch := first | omega | (simp only [List.length_append, List.length_cons, List.length_nil]; omega)) only [hm, hm2, go_sem, fill_c, ↓reduceIte, reduceCtorEq, Nat.reduceAdd, Nat.reduceSub, Nat.reducePow, Nat.reduceMul, Nat.reduceEqDiff, Nat.reduceLT, Nat.reduceLeDiff, Int.reduceToNat, Int.reduceLT, Int.reduceLE, Int.reduceEq, Int.reduceNeg, Int.reduceAdd, Int.reduceSub, Int.reduceMul]
        exact fin _ _ rfl
    · refine gfc_same (why_fc _ (ruP r) op' k kok) ?_
      have hv := v4 rfl
      generalize whyF (ruP r) k = m at *
      simp (disch := first | omega | (simp only [List.length_append, List.length_cons, List.length_nil]; omega)) only [lr, r1, rt, lk, kt, k1, la, a1, at', p36, l36, p38, l38, os, od, op, oc, ru_sp36, ru_sp38, ru_set40, ru_set41, ok, ls, ld, lp, lc, go_sem, fill_c, ↓reduceIte, reduceCtorEq, Nat.reduceAdd, Nat.reduceSub, Nat.reducePow, Nat.reduceMul, Nat.reduceEqDiff, Nat.reduceLT, Nat.reduceLeDiff, Int.reduceToNat, Int.reduceLT, Int.reduceLE, Int.reduceEq, Int.reduceNeg, Int.reduceAdd, Int.reduceSub, Int.reduceMul]
      refine gfc_same (L23.live23 _) ?_
      by_cases hm : m = -1
      · have e0 : decide (m = -1) = true := decide_eq_true hm
        simp (disch := first | omega | (simp only [List.length_append, List.length_cons, List.length_nil]; omega)) only [e0, go_sem, fill_c, ↓reduceIte, reduceCtorEq, Nat.reduceAdd, Nat.reduceSub, Nat.reducePow, Nat.reduceMul, Nat.reduceEqDiff, Nat.reduceLT, Nat.reduceLeDiff, Int.reduceToNat, Int.reduceLT, Int.reduceLE, Int.reduceEq, Int.reduceNeg, Int.reduceAdd, Int.reduceSub, Int.reduceMul]
        exact fin _ _ rfl
      · have hm2 : 4 < m := hv.resolve_left hm
        simp (disch := first | omega | (simp only [List.length_append, List.length_cons, List.length_nil]; omega)) only [hm, hm2, go_sem, fill_c, ↓reduceIte, reduceCtorEq, Nat.reduceAdd, Nat.reduceSub, Nat.reducePow, Nat.reduceMul, Nat.reduceEqDiff, Nat.reduceLT, Nat.reduceLeDiff, Int.reduceToNat, Int.reduceLT, Int.reduceLE, Int.reduceEq, Int.reduceNeg, Int.reduceAdd, Int.reduceSub, Int.reduceMul]
        exact fin _ _ rfl
    · refine gfc_same (why_fc _ (ruC r) oc' k kok) ?_
      have hv := v5 rfl
      generalize whyF (ruC r) k = m at *
      simp (disch := first | omega | (simp only [List.length_append, List.length_cons, List.length_nil]; omega)) only [lr, r1, rt, lk, kt, k1, la, a1, at', p36, l36, p38, l38, os, od, op, oc, ru_sp36, ru_sp38, ru_set40, ru_set41, ok, ls, ld, lp, lc, go_sem, fill_c, ↓reduceIte, reduceCtorEq, Nat.reduceAdd, Nat.reduceSub, Nat.reducePow, Nat.reduceMul, Nat.reduceEqDiff, Nat.reduceLT, Nat.reduceLeDiff, Int.reduceToNat, Int.reduceLT, Int.reduceLE, Int.reduceEq, Int.reduceNeg, Int.reduceAdd, Int.reduceSub, Int.reduceMul]
      refine gfc_same (L23.live23 _) ?_
      by_cases hm : m = -1
      · have e0 : decide (m = -1) = true := decide_eq_true hm
        simp (disch := first | omega | (simp only [List.length_append, List.length_cons, List.length_nil]; omega)) only [e0, go_sem, fill_c, ↓reduceIte, reduceCtorEq, Nat.reduceAdd, Nat.reduceSub, Nat.reducePow, Nat.reduceMul, Nat.reduceEqDiff, Nat.reduceLT, Nat.reduceLeDiff, Int.reduceToNat, Int.reduceLT, Int.reduceLE, Int.reduceEq, Int.reduceNeg, Int.reduceAdd, Int.reduceSub, Int.reduceMul]
        exact fin _ _ rfl
      · have hm2 : 5 < m := hv.resolve_left hm
        simp (disch := first | omega | (simp only [List.length_append, List.length_cons, List.length_nil]; omega)) only [hm, hm2, go_sem, fill_c, ↓reduceIte, reduceCtorEq, Nat.reduceAdd, Nat.reduceSub, Nat.reducePow, Nat.reduceMul, Nat.reduceEqDiff, Nat.reduceLT, Nat.reduceLeDiff, Int.reduceToNat, Int.reduceLT, Int.reduceLE, Int.reduceEq, Int.reduceNeg, Int.reduceAdd, Int.reduceSub, Int.reduceMul]
        exact fin _ _ rfl
  | false =>
    rw [hc] at w2
    have h2 : n = -2 := by simpa using w2
    subst h2
    simp (disch := first | omega | (simp only [List.length_append, List.length_cons, List.length_nil]; omega)) only [hc, lr, ru_0, ru_d42, ruT, ok, go_sem, fill_c, ↓reduceIte, reduceCtorEq, Nat.reduceAdd, Nat.reduceSub, Nat.reducePow, Nat.reduceMul, Nat.reduceEqDiff, Nat.reduceLT, Nat.reduceLeDiff, Int.reduceToNat, Int.reduceLT, Int.reduceLE, Int.reduceEq, Int.reduceNeg, Int.reduceAdd, Int.reduceSub, Int.reduceMul]
    refine gfc_same (any_fc _ r.sv r.cls) ?_
    simp (disch := first | omega | (simp only [List.length_append, List.length_cons, List.length_nil]; omega)) only [lr, r1, rt, lk, kt, k1, la, a1, at', p36, l36, p38, l38, os, od, op, oc, ru_sp36, ru_sp38, ru_set40, ru_set41, ok, ls, ld, lp, lc, go_sem, fill_c, ↓reduceIte, reduceCtorEq, Nat.reduceAdd, Nat.reduceSub, Nat.reducePow, Nat.reduceMul, Nat.reduceEqDiff, Nat.reduceLT, Nat.reduceLeDiff, Int.reduceToNat, Int.reduceLT, Int.reduceLE, Int.reduceEq, Int.reduceNeg, Int.reduceAdd, Int.reduceSub, Int.reduceMul]
    refine gfc_same (L23.live23 _) ?_
    simp (disch := first | omega | (simp only [List.length_append, List.length_cons, List.length_nil]; omega)) only [go_sem, fill_c, ↓reduceIte, reduceCtorEq, Nat.reduceAdd, Nat.reduceSub, Nat.reducePow, Nat.reduceMul, Nat.reduceEqDiff, Nat.reduceLT, Nat.reduceLeDiff, Int.reduceToNat, Int.reduceLT, Int.reduceLE, Int.reduceEq, Int.reduceNeg, Int.reduceAdd, Int.reduceSub, Int.reduceMul]
    exact fin _ _ rfl
theorem why_row (h : Heap) (x0 : (Sh.pair (.pair (.int .i64) (.pair (.arr 16 (.int .u8)) (.pair (.int .i64) .unit))) (.pair (.pair (.int .i64) (.pair (.arr 16 (.int .u8)) (.pair (.int .i64) .unit))) (.pair (.pair (.int .i64) (.pair (.int .i64) .unit)) (.pair (.pair (.int .i64) (.pair (.int .i64) .unit)) (.pair (.int .i64) (.pair (.int .i64) (.pair (.int .i64) .unit))))))).T) (ok0 : (Sh.pair (.pair (.int .i64) (.pair (.arr 16 (.int .u8)) (.pair (.int .i64) .unit))) (.pair (.pair (.int .i64) (.pair (.arr 16 (.int .u8)) (.pair (.int .i64) .unit))) (.pair (.pair (.int .i64) (.pair (.int .i64) .unit)) (.pair (.pair (.int .i64) (.pair (.int .i64) .unit)) (.pair (.int .i64) (.pair (.int .i64) (.pair (.int .i64) .unit))))))).ok x0) (x1 : (Sh.pair (.int .i64) (.pair (.arr 16 (.int .u8)) (.pair (.arr 16 (.int .u8)) (.pair (.int .i64) (.pair (.int .i64) (.pair .bool (.pair (.int .i64) (.pair (.int .i64) .unit)))))))).T) (ok1 : (Sh.pair (.int .i64) (.pair (.arr 16 (.int .u8)) (.pair (.arr 16 (.int .u8)) (.pair (.int .i64) (.pair (.int .i64) (.pair .bool (.pair (.int .i64) (.pair (.int .i64) .unit)))))))).ok x1)
    (hv : (Sh.pair (.pair (.int .i64) (.pair (.arr 16 (.int .u8)) (.pair (.int .i64) .unit))) (.pair (.pair (.int .i64) (.pair (.arr 16 (.int .u8)) (.pair (.int .i64) .unit))) (.pair (.pair (.int .i64) (.pair (.int .i64) .unit)) (.pair (.pair (.int .i64) (.pair (.int .i64) .unit)) (.pair (.int .i64) (.pair (.int .i64) (.pair (.int .i64) .unit))))))).vol x0 + (Sh.pair (.int .i64) (.pair (.arr 16 (.int .u8)) (.pair (.arr 16 (.int .u8)) (.pair (.int .i64) (.pair (.int .i64) (.pair .bool (.pair (.int .i64) (.pair (.int .i64) .unit)))))))).vol x1 ≤ 1048576)
    (D0 : D) (en0 : (Sh.pair (.pair (.int .i64) (.pair (.arr 16 (.int .u8)) (.pair (.int .i64) .unit))) (.pair (.pair (.int .i64) (.pair (.arr 16 (.int .u8)) (.pair (.int .i64) .unit))) (.pair (.pair (.int .i64) (.pair (.int .i64) .unit)) (.pair (.pair (.int .i64) (.pair (.int .i64) .unit)) (.pair (.int .i64) (.pair (.int .i64) (.pair (.int .i64) .unit))))))).EncV x0 D0) (D1 : D) (en1 : (Sh.pair (.int .i64) (.pair (.arr 16 (.int .u8)) (.pair (.arr 16 (.int .u8)) (.pair (.int .i64) (.pair (.int .i64) (.pair .bool (.pair (.int .i64) (.pair (.int .i64) .unit)))))))).EncV x1 D1) : FC Try.prog 4 [D0, D1] h fun d h' => d = .bool true ∧ h' = h := by
  obtain ⟨r, ok, rfl⟩ := ru_open ok0 en0
  obtain ⟨k, kok, rfl⟩ := ky_open ok1 en1
  exact why_law h r k ok kok
end Go.Proofs

