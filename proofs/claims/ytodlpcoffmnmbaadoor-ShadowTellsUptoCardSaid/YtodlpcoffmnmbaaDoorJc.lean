/-
  Own work. Rules read from data: answers for closed runs. What must be whatever is asked: live of layer 23.
-/
import Derived.Test.YtodlpcoffmnmbaaDoorJb
import Derived.Test.YtodlpcoffmnmbaaDoorVw
namespace Go.Proofs.L23
open Go Go.YtodlpcoffmnmbaaDoor Go.Proofs
set_option linter.unusedVariables false
set_option linter.unusedSimpArgs false
set_option maxRecDepth 10000

/-! ### weighbridge/shadow.Witness, params 2 -/
def c4r0 : List AStm := [.op (some 2) none (.box (.t 0)),
    .op (some 3) none (.box (.t 1)),
    .op (some 4) none (.alloc [(.int .i64 0), (.int .u8 0), (.int .u8 0), (.int .u8 0), (.int .u8 0), (.int .u8 0), (.int .u8 0), (.int .u8 0), (.int .u8 0), (.int .u8 0), (.int .u8 0), (.int .u8 0), (.int .u8 0), (.int .u8 0), (.int .u8 0), (.int .u8 0), (.int .u8 0), (.int .u8 0), (.int .u8 0), (.int .u8 0), (.int .u8 0), (.int .u8 0), (.int .u8 0), (.int .u8 0), (.int .u8 0), (.int .u8 0), (.int .u8 0), (.int .u8 0), (.int .u8 0), (.int .u8 0), (.int .u8 0), (.int .u8 0), (.int .u8 0), (.int .i64 0), (.int .i64 0), (.bool false), (.int .i64 0), (.int .i64 0)]),
    .op (some 5) none (.mv (.c (.bool false)))]
def c4r1 : List AStm := [.op (some 8) none (.load (some 43) (.t 2)),
    .op (some 9) none (.load (some 43) (.t 3)),
    .op (some 10) none (.bslice 43 [(.int .i64 0), (.int .u8 0), (.int .u8 0), (.int .u8 0), (.int .u8 0), (.int .u8 0), (.int .u8 0), (.int .u8 0), (.int .u8 0), (.int .u8 0), (.int .u8 0), (.int .u8 0), (.int .u8 0), (.int .u8 0), (.int .u8 0), (.int .u8 0), (.int .u8 0), (.int .i64 0), (.int .i64 0), (.int .u8 0), (.int .u8 0), (.int .u8 0), (.int .u8 0), (.int .u8 0), (.int .u8 0), (.int .u8 0), (.int .u8 0), (.int .u8 0), (.int .u8 0), (.int .u8 0), (.int .u8 0), (.int .u8 0), (.int .u8 0), (.int .u8 0), (.int .u8 0), (.int .i64 0), (.int .i64 0), (.int .i64 0), (.int .i64 0), (.int .i64 0), (.int .i64 0), (.int .i64 0), (.int .i64 0), (.int .i64 0), (.int .u8 0), (.int .u8 0), (.int .u8 0), (.int .u8 0), (.int .u8 0), (.int .u8 0), (.int .u8 0), (.int .u8 0), (.int .u8 0), (.int .u8 0), (.int .u8 0), (.int .u8 0), (.int .u8 0), (.int .u8 0), (.int .u8 0), (.int .u8 0), (.int .i64 0), (.int .i64 0), (.int .u8 0), (.int .u8 0), (.int .u8 0), (.int .u8 0), (.int .u8 0), (.int .u8 0), (.int .u8 0), (.int .u8 0), (.int .u8 0), (.int .u8 0), (.int .u8 0), (.int .u8 0), (.int .u8 0), (.int .u8 0), (.int .u8 0), (.int .u8 0), (.int .i64 0), (.int .i64 0), (.int .i64 0), (.int .i64 0), (.int .i64 0), (.int .i64 0), (.int .i64 0), (.int .i64 0)] 2 [(0, 43, (.t 8)), (43, 43, (.t 9))]),
    .call (some 11) none (.c (.fn (.func 12) [] [])) [(.t 10)],
    .op (some 12) none (.un .not (.t 11))]
def c4r2 : List AStm := [.op (some 13) none (.build [(.int .i64 0), (.int .u8 0), (.int .u8 0), (.int .u8 0), (.int .u8 0), (.int .u8 0), (.int .u8 0), (.int .u8 0), (.int .u8 0), (.int .u8 0), (.int .u8 0), (.int .u8 0), (.int .u8 0), (.int .u8 0), (.int .u8 0), (.int .u8 0), (.int .u8 0), (.int .u8 0), (.int .u8 0), (.int .u8 0), (.int .u8 0), (.int .u8 0), (.int .u8 0), (.int .u8 0), (.int .u8 0), (.int .u8 0), (.int .u8 0), (.int .u8 0), (.int .u8 0), (.int .u8 0), (.int .u8 0), (.int .u8 0), (.int .u8 0), (.int .i64 0), (.int .i64 0), (.bool false), (.int .i64 0), (.int .i64 0)] []),
    .op none none (.store 38 (.t 4) (.t 13)),
    .op (some 5) none (.mv (.c (.bool false)))]
def c4r3 : List AStm := [.op (some 6) none (.alloc [(.bool false)])]
def c4r4 : List AStm := [.op (some 14) none (.faddr 0 (.t 2)),
    .op (some 15) none (.faddr 0 (.t 14)),
    .op (some 16) none (.load none (.t 15)),
    .op (some 17) none (.faddr 0 (.t 2)),
    .op (some 18) none (.load (some 18) (.t 17)),
    .op (some 19) none (.faddr 0 (.t 3)),
    .op (some 20) none (.load (some 18) (.t 19)),
    .op (some 22) none (.faddr 18 (.t 2)),
    .op (some 23) none (.load (some 18) (.t 22)),
    .op (some 24) none (.faddr 18 (.t 3)),
    .op (some 25) none (.load (some 18) (.t 24)),
    .op (some 27) none (.faddr 36 (.t 2)),
    .op (some 28) none (.load (some 2) (.t 27)),
    .op (some 29) none (.faddr 36 (.t 3)),
    .op (some 30) none (.load (some 2) (.t 29)),
    .op (some 32) none (.faddr 38 (.t 2)),
    .op (some 33) none (.load (some 2) (.t 32)),
    .op (some 34) none (.faddr 38 (.t 3)),
    .op (some 35) none (.load (some 2) (.t 34)),
    .op (some 37) none (.faddr 40 (.t 2)),
    .op (some 38) none (.load none (.t 37)),
    .op (some 39) none (.faddr 40 (.t 3)),
    .op (some 40) none (.load none (.t 39)),
    .op (some 42) none (.faddr 41 (.t 2)),
    .op (some 43) none (.load none (.t 42)),
    .op (some 44) none (.faddr 41 (.t 3)),
    .op (some 45) none (.load none (.t 44)),
    .callW (some 21) (.c (.fn (.func 13) [] [])) [(.t 6), (.t 18), (.t 20)],
    .chk 14 none (.faddr 0 (.t 2)),
    .chk 15 none (.faddr 0 (.t 14)),
    .chk 16 none (.load none (.t 15)),
    .chk 22 none (.faddr 18 (.t 2)),
    .chk 23 none (.load (some 18) (.t 22)),
    .chk 24 none (.faddr 18 (.t 3)),
    .chk 25 none (.load (some 18) (.t 24)),
    .chk 27 none (.faddr 36 (.t 2)),
    .chk 28 none (.load (some 2) (.t 27)),
    .chk 29 none (.faddr 36 (.t 3)),
    .chk 30 none (.load (some 2) (.t 29)),
    .chk 32 none (.faddr 38 (.t 2)),
    .chk 33 none (.load (some 2) (.t 32)),
    .chk 34 none (.faddr 38 (.t 3)),
    .chk 35 none (.load (some 2) (.t 34)),
    .chk 37 none (.faddr 40 (.t 2)),
    .chk 38 none (.load none (.t 37)),
    .chk 39 none (.faddr 40 (.t 3)),
    .chk 40 none (.load none (.t 39)),
    .chk 42 none (.faddr 41 (.t 2)),
    .chk 43 none (.load none (.t 42)),
    .chk 44 none (.faddr 41 (.t 3)),
    .chk 45 none (.load none (.t 44)),
    .callW (some 26) (.c (.fn (.func 13) [] [])) [(.t 6), (.t 23), (.t 25)],
    .chk 14 none (.faddr 0 (.t 2)),
    .chk 15 none (.faddr 0 (.t 14)),
    .chk 16 none (.load none (.t 15)),
    .chk 27 none (.faddr 36 (.t 2)),
    .chk 28 none (.load (some 2) (.t 27)),
    .chk 29 none (.faddr 36 (.t 3)),
    .chk 30 none (.load (some 2) (.t 29)),
    .chk 32 none (.faddr 38 (.t 2)),
    .chk 33 none (.load (some 2) (.t 32)),
    .chk 34 none (.faddr 38 (.t 3)),
    .chk 35 none (.load (some 2) (.t 34)),
    .chk 37 none (.faddr 40 (.t 2)),
    .chk 38 none (.load none (.t 37)),
    .chk 39 none (.faddr 40 (.t 3)),
    .chk 40 none (.load none (.t 39)),
    .chk 42 none (.faddr 41 (.t 2)),
    .chk 43 none (.load none (.t 42)),
    .chk 44 none (.faddr 41 (.t 3)),
    .chk 45 none (.load none (.t 44)),
    .callW (some 31) (.c (.fn (.func 14) [] [])) [(.t 6), (.t 28), (.t 30)],
    .chk 14 none (.faddr 0 (.t 2)),
    .chk 15 none (.faddr 0 (.t 14)),
    .chk 16 none (.load none (.t 15)),
    .chk 32 none (.faddr 38 (.t 2)),
    .chk 33 none (.load (some 2) (.t 32)),
    .chk 34 none (.faddr 38 (.t 3)),
    .chk 35 none (.load (some 2) (.t 34)),
    .chk 37 none (.faddr 40 (.t 2)),
    .chk 38 none (.load none (.t 37)),
    .chk 39 none (.faddr 40 (.t 3)),
    .chk 40 none (.load none (.t 39)),
    .chk 42 none (.faddr 41 (.t 2)),
    .chk 43 none (.load none (.t 42)),
    .chk 44 none (.faddr 41 (.t 3)),
    .chk 45 none (.load none (.t 44)),
    .callW (some 36) (.c (.fn (.func 14) [] [])) [(.t 6), (.t 33), (.t 35)],
    .chk 14 none (.faddr 0 (.t 2)),
    .chk 15 none (.faddr 0 (.t 14)),
    .chk 16 none (.load none (.t 15)),
    .chk 37 none (.faddr 40 (.t 2)),
    .chk 38 none (.load none (.t 37)),
    .chk 39 none (.faddr 40 (.t 3)),
    .chk 40 none (.load none (.t 39)),
    .chk 42 none (.faddr 41 (.t 2)),
    .chk 43 none (.load none (.t 42)),
    .chk 44 none (.faddr 41 (.t 3)),
    .chk 45 none (.load none (.t 44)),
    .callW (some 41) (.c (.fn (.func 15) [] [])) [(.t 6), (.t 38), (.t 40), (.c (.int .i64 6))],
    .chk 14 none (.faddr 0 (.t 2)),
    .chk 15 none (.faddr 0 (.t 14)),
    .chk 16 none (.load none (.t 15)),
    .chk 42 none (.faddr 41 (.t 2)),
    .chk 43 none (.load none (.t 42)),
    .chk 44 none (.faddr 41 (.t 3)),
    .chk 45 none (.load none (.t 44)),
    .callW (some 46) (.c (.fn (.func 15) [] [])) [(.t 6), (.t 43), (.t 45), (.c (.int .i64 0))],
    .chk 14 none (.faddr 0 (.t 2)),
    .chk 15 none (.faddr 0 (.t 14)),
    .chk 16 none (.load none (.t 15)),
    .op (some 47) none (.build [(.int .i64 0), (.int .u8 0), (.int .u8 0), (.int .u8 0), (.int .u8 0), (.int .u8 0), (.int .u8 0), (.int .u8 0), (.int .u8 0), (.int .u8 0), (.int .u8 0), (.int .u8 0), (.int .u8 0), (.int .u8 0), (.int .u8 0), (.int .u8 0), (.int .u8 0), (.int .u8 0), (.int .u8 0), (.int .u8 0), (.int .u8 0), (.int .u8 0), (.int .u8 0), (.int .u8 0), (.int .u8 0), (.int .u8 0), (.int .u8 0), (.int .u8 0), (.int .u8 0), (.int .u8 0), (.int .u8 0), (.int .u8 0), (.int .u8 0), (.int .i64 0), (.int .i64 0), (.bool false), (.int .i64 0), (.int .i64 0)] [(0, 1, (.t 16)), (1, 16, (.t 21)), (17, 16, (.t 26)), (35, 1, (.c (.bool true))), (36, 1, (.t 31)), (37, 1, (.t 36)), (33, 1, (.t 41)), (34, 1, (.t 46))]),
    .op (some 7) none (.alloc [(.int .i64 0), (.int .u8 0), (.int .u8 0), (.int .u8 0), (.int .u8 0), (.int .u8 0), (.int .u8 0), (.int .u8 0), (.int .u8 0), (.int .u8 0), (.int .u8 0), (.int .u8 0), (.int .u8 0), (.int .u8 0), (.int .u8 0), (.int .u8 0), (.int .u8 0), (.int .u8 0), (.int .u8 0), (.int .u8 0), (.int .u8 0), (.int .u8 0), (.int .u8 0), (.int .u8 0), (.int .u8 0), (.int .u8 0), (.int .u8 0), (.int .u8 0), (.int .u8 0), (.int .u8 0), (.int .u8 0), (.int .u8 0), (.int .u8 0), (.int .i64 0), (.int .i64 0), (.bool false), (.int .i64 0), (.int .i64 0)])]
def c4r5 : List AStm := [.op none none (.store 38 (.t 7) (.t 47))]
def c4r6 : List AStm := [.op (some 48) none (.faddr 0 (.t 6)),
    .op (some 49) none (.load none (.t 48))]
def c4r7 : List AStm := [.op (some 50) none (.build [(.int .i64 0), (.int .u8 0), (.int .u8 0), (.int .u8 0), (.int .u8 0), (.int .u8 0), (.int .u8 0), (.int .u8 0), (.int .u8 0), (.int .u8 0), (.int .u8 0), (.int .u8 0), (.int .u8 0), (.int .u8 0), (.int .u8 0), (.int .u8 0), (.int .u8 0), (.int .u8 0), (.int .u8 0), (.int .u8 0), (.int .u8 0), (.int .u8 0), (.int .u8 0), (.int .u8 0), (.int .u8 0), (.int .u8 0), (.int .u8 0), (.int .u8 0), (.int .u8 0), (.int .u8 0), (.int .u8 0), (.int .u8 0), (.int .u8 0), (.int .i64 0), (.int .i64 0), (.bool false), (.int .i64 0), (.int .i64 0)] []),
    .op none none (.store 38 (.t 4) (.t 50)),
    .op (some 5) none (.mv (.c (.bool false)))]
def c4r8 : List AStm := [.op (some 51) none (.load (some 38) (.t 7)),
    .op none none (.store 38 (.t 4) (.t 51)),
    .op (some 5) none (.mv (.c (.bool true)))]
def c4 : CF := ⟨.seq (.reg c4r0) (.seq (.seq (.reg c4r1) (.cond (.t 12) (.seq (.reg c4r2) (.ret)) (.skip))) (.seq (.reg c4r3) (.seq (.dreg c4r4 c4r5) (.seq (.seq (.reg c4r6) (.cond (.t 49) (.seq (.reg c4r7) (.ret)) (.skip))) (.seq (.reg c4r8) (.ret)))))), [.cell 4 (some 38), .tmp 5], 52⟩
theorem cf4 : cfun Tryd.prog 4 = some c4 := by kernel_rfl

/-! ### weighbridge/weighbridgelaw23.live, params 0 -/
def c6r0 : List AStm := [.op (some 0) none (.mv (.c (.bool false)))]
def c6r1 : List AStm := [.call (some 14) none (.c (.fn (.func 20) [] [])) [(.c (.int .i64 4)), (.c (.int .i64 1))],
    .call (some 15) none (.c (.fn (.func 20) [] [])) [(.c (.int .i64 4)), (.c (.int .i64 2))],
    .op (some 1) none (.alloc [(.int .i64 0), (.int .u8 0), (.int .u8 0), (.int .u8 0), (.int .u8 0), (.int .u8 0), (.int .u8 0), (.int .u8 0), (.int .u8 0), (.int .u8 0), (.int .u8 0), (.int .u8 0), (.int .u8 0), (.int .u8 0), (.int .u8 0), (.int .u8 0), (.int .u8 0), (.int .i64 0), (.int .i64 0), (.int .u8 0), (.int .u8 0), (.int .u8 0), (.int .u8 0), (.int .u8 0), (.int .u8 0), (.int .u8 0), (.int .u8 0), (.int .u8 0), (.int .u8 0), (.int .u8 0), (.int .u8 0), (.int .u8 0), (.int .u8 0), (.int .u8 0), (.int .u8 0), (.int .i64 0), (.int .i64 0), (.int .i64 0), (.int .i64 0), (.int .i64 0), (.int .i64 0), (.int .i64 0), (.int .i64 0)]),
    .op (some 2) none (.alloc [(.int .i64 0), (.int .u8 0), (.int .u8 0), (.int .u8 0), (.int .u8 0), (.int .u8 0), (.int .u8 0), (.int .u8 0), (.int .u8 0), (.int .u8 0), (.int .u8 0), (.int .u8 0), (.int .u8 0), (.int .u8 0), (.int .u8 0), (.int .u8 0), (.int .u8 0), (.int .i64 0), (.int .i64 0), (.int .u8 0), (.int .u8 0), (.int .u8 0), (.int .u8 0), (.int .u8 0), (.int .u8 0), (.int .u8 0), (.int .u8 0), (.int .u8 0), (.int .u8 0), (.int .u8 0), (.int .u8 0), (.int .u8 0), (.int .u8 0), (.int .u8 0), (.int .u8 0), (.int .i64 0), (.int .i64 0), (.int .i64 0), (.int .i64 0), (.int .i64 0), (.int .i64 0), (.int .i64 0), (.int .i64 0)]),
    .op none none (.store 43 (.t 1) (.t 14)),
    .op none none (.store 43 (.t 2) (.t 15))]
def c6r2 : List AStm := [.op (some 16) none (.build [(.int .i64 0), (.int .i64 0)] [(0, 1, (.c (.int .i64 53))), (1, 1, (.c (.int .i64 53)))]),
    .op (some 17) none (.faddr 38 (.t 2)),
    .op none none (.store 2 (.t 17) (.t 16))]
def c6r3 : List AStm := [.op (some 18) none (.load (some 43) (.t 2)),
    .op (some 3) none (.alloc [(.int .i64 0), (.int .u8 0), (.int .u8 0), (.int .u8 0), (.int .u8 0), (.int .u8 0), (.int .u8 0), (.int .u8 0), (.int .u8 0), (.int .u8 0), (.int .u8 0), (.int .u8 0), (.int .u8 0), (.int .u8 0), (.int .u8 0), (.int .u8 0), (.int .u8 0), (.int .i64 0), (.int .i64 0), (.int .u8 0), (.int .u8 0), (.int .u8 0), (.int .u8 0), (.int .u8 0), (.int .u8 0), (.int .u8 0), (.int .u8 0), (.int .u8 0), (.int .u8 0), (.int .u8 0), (.int .u8 0), (.int .u8 0), (.int .u8 0), (.int .u8 0), (.int .u8 0), (.int .i64 0), (.int .i64 0), (.int .i64 0), (.int .i64 0), (.int .i64 0), (.int .i64 0), (.int .i64 0), (.int .i64 0)]),
    .op none none (.store 43 (.t 3) (.t 18))]
def c6r4 : List AStm := [.op (some 19) none (.faddr 40 (.t 3)),
    .op none none (.store 1 (.t 19) (.c (.int .i64 1)))]
def c6r5 : List AStm := [.op (some 21) none (.load (some 43) (.t 1)),
    .op (some 22) none (.load (some 43) (.t 2)),
    .call (some 23) none (.c (.fn (.func 4) [] [])) [(.t 21), (.t 22)],
    .op (some 20) none (.mv (.t 23)),
    .op (some 24) none (.ext (.t 20) 0),
    .op (some 25) none (.ext (.t 20) 1),
    .op (some 4) none (.alloc [(.int .i64 0), (.int .u8 0), (.int .u8 0), (.int .u8 0), (.int .u8 0), (.int .u8 0), (.int .u8 0), (.int .u8 0), (.int .u8 0), (.int .u8 0), (.int .u8 0), (.int .u8 0), (.int .u8 0), (.int .u8 0), (.int .u8 0), (.int .u8 0), (.int .u8 0), (.int .u8 0), (.int .u8 0), (.int .u8 0), (.int .u8 0), (.int .u8 0), (.int .u8 0), (.int .u8 0), (.int .u8 0), (.int .u8 0), (.int .u8 0), (.int .u8 0), (.int .u8 0), (.int .u8 0), (.int .u8 0), (.int .u8 0), (.int .u8 0), (.int .i64 0), (.int .i64 0), (.bool false), (.int .i64 0), (.int .i64 0)]),
    .op none none (.store 38 (.t 4) (.t 24)),
    .op (some 5) none (.mv (.t 25))]
def c6r6 : List AStm := [.op (some 27) none (.load (some 43) (.t 1)),
    .callL (some 28) none (.c (.fn (.func 20) [] [])) [(.c (.int .i64 6)), (.c (.int .i64 1))],
    .callL (some 29) none (.c (.fn (.func 4) [] [])) [(.t 27), (.t 28)],
    .op (some 26) none (.mv (.t 29)),
    .op (some 30) none (.ext (.t 26) 0),
    .op (some 31) none (.ext (.t 26) 1),
    .op (some 6) none (.alloc [(.int .i64 0), (.int .u8 0), (.int .u8 0), (.int .u8 0), (.int .u8 0), (.int .u8 0), (.int .u8 0), (.int .u8 0), (.int .u8 0), (.int .u8 0), (.int .u8 0), (.int .u8 0), (.int .u8 0), (.int .u8 0), (.int .u8 0), (.int .u8 0), (.int .u8 0), (.int .u8 0), (.int .u8 0), (.int .u8 0), (.int .u8 0), (.int .u8 0), (.int .u8 0), (.int .u8 0), (.int .u8 0), (.int .u8 0), (.int .u8 0), (.int .u8 0), (.int .u8 0), (.int .u8 0), (.int .u8 0), (.int .u8 0), (.int .u8 0), (.int .i64 0), (.int .i64 0), (.bool false), (.int .i64 0), (.int .i64 0)]),
    .op none none (.store 38 (.t 6) (.t 30)),
    .op (some 7) none (.mv (.t 31))]
def c6r7 : List AStm := []
def c6r8 : List AStm := [.op (some 33) none (.load (some 43) (.t 2)),
    .op (some 34) none (.load (some 43) (.t 1)),
    .op (some 35) none (.load (some 43) (.t 3)),
    .op (some 36) none (.load (some 43) (.t 2)),
    .op (some 37) none (.bslice 43 [(.int .i64 0), (.int .u8 0), (.int .u8 0), (.int .u8 0), (.int .u8 0), (.int .u8 0), (.int .u8 0), (.int .u8 0), (.int .u8 0), (.int .u8 0), (.int .u8 0), (.int .u8 0), (.int .u8 0), (.int .u8 0), (.int .u8 0), (.int .u8 0), (.int .u8 0), (.int .i64 0), (.int .i64 0), (.int .u8 0), (.int .u8 0), (.int .u8 0), (.int .u8 0), (.int .u8 0), (.int .u8 0), (.int .u8 0), (.int .u8 0), (.int .u8 0), (.int .u8 0), (.int .u8 0), (.int .u8 0), (.int .u8 0), (.int .u8 0), (.int .u8 0), (.int .u8 0), (.int .i64 0), (.int .i64 0), (.int .i64 0), (.int .i64 0), (.int .i64 0), (.int .i64 0), (.int .i64 0), (.int .i64 0), (.int .i64 0), (.int .u8 0), (.int .u8 0), (.int .u8 0), (.int .u8 0), (.int .u8 0), (.int .u8 0), (.int .u8 0), (.int .u8 0), (.int .u8 0), (.int .u8 0), (.int .u8 0), (.int .u8 0), (.int .u8 0), (.int .u8 0), (.int .u8 0), (.int .u8 0), (.int .i64 0), (.int .i64 0), (.int .u8 0), (.int .u8 0), (.int .u8 0), (.int .u8 0), (.int .u8 0), (.int .u8 0), (.int .u8 0), (.int .u8 0), (.int .u8 0), (.int .u8 0), (.int .u8 0), (.int .u8 0), (.int .u8 0), (.int .u8 0), (.int .u8 0), (.int .u8 0), (.int .i64 0), (.int .i64 0), (.int .i64 0), (.int .i64 0), (.int .i64 0), (.int .i64 0), (.int .i64 0), (.int .i64 0), (.int .i64 0), (.int .u8 0), (.int .u8 0), (.int .u8 0), (.int .u8 0), (.int .u8 0), (.int .u8 0), (.int .u8 0), (.int .u8 0), (.int .u8 0), (.int .u8 0), (.int .u8 0), (.int .u8 0), (.int .u8 0), (.int .u8 0), (.int .u8 0), (.int .u8 0), (.int .i64 0), (.int .i64 0), (.int .u8 0), (.int .u8 0), (.int .u8 0), (.int .u8 0), (.int .u8 0), (.int .u8 0), (.int .u8 0), (.int .u8 0), (.int .u8 0), (.int .u8 0), (.int .u8 0), (.int .u8 0), (.int .u8 0), (.int .u8 0), (.int .u8 0), (.int .u8 0), (.int .i64 0), (.int .i64 0), (.int .i64 0), (.int .i64 0), (.int .i64 0), (.int .i64 0), (.int .i64 0), (.int .i64 0), (.int .i64 0), (.int .u8 0), (.int .u8 0), (.int .u8 0), (.int .u8 0), (.int .u8 0), (.int .u8 0), (.int .u8 0), (.int .u8 0), (.int .u8 0), (.int .u8 0), (.int .u8 0), (.int .u8 0), (.int .u8 0), (.int .u8 0), (.int .u8 0), (.int .u8 0), (.int .i64 0), (.int .i64 0), (.int .u8 0), (.int .u8 0), (.int .u8 0), (.int .u8 0), (.int .u8 0), (.int .u8 0), (.int .u8 0), (.int .u8 0), (.int .u8 0), (.int .u8 0), (.int .u8 0), (.int .u8 0), (.int .u8 0), (.int .u8 0), (.int .u8 0), (.int .u8 0), (.int .i64 0), (.int .i64 0), (.int .i64 0), (.int .i64 0), (.int .i64 0), (.int .i64 0), (.int .i64 0), (.int .i64 0)] 4 [(0, 43, (.t 33)), (43, 43, (.t 34)), (86, 43, (.t 35)), (129, 43, (.t 36))]),
    .call (some 38) none (.c (.fn (.func 21) [] [])) [(.t 37)],
    .op (some 32) none (.mv (.t 38)),
    .op (some 39) none (.ext (.t 32) 0),
    .op (some 40) none (.ext (.t 32) 1),
    .op (some 9) none (.alloc [(.int .i64 0), (.int .i64 0)]),
    .op (some 8) none (.mv (.t 39)),
    .op none none (.store 2 (.t 9) (.t 40))]
def c6r9 : List AStm := [.op (some 42) none (.load (some 43) (.t 2)),
    .op (some 43) none (.load (some 43) (.t 1)),
    .op (some 44) none (.load (some 43) (.t 3)),
    .op (some 45) none (.load (some 43) (.t 2)),
    .op (some 46) none (.bslice 43 [(.int .i64 0), (.int .u8 0), (.int .u8 0), (.int .u8 0), (.int .u8 0), (.int .u8 0), (.int .u8 0), (.int .u8 0), (.int .u8 0), (.int .u8 0), (.int .u8 0), (.int .u8 0), (.int .u8 0), (.int .u8 0), (.int .u8 0), (.int .u8 0), (.int .u8 0), (.int .i64 0), (.int .i64 0), (.int .u8 0), (.int .u8 0), (.int .u8 0), (.int .u8 0), (.int .u8 0), (.int .u8 0), (.int .u8 0), (.int .u8 0), (.int .u8 0), (.int .u8 0), (.int .u8 0), (.int .u8 0), (.int .u8 0), (.int .u8 0), (.int .u8 0), (.int .u8 0), (.int .i64 0), (.int .i64 0), (.int .i64 0), (.int .i64 0), (.int .i64 0), (.int .i64 0), (.int .i64 0), (.int .i64 0), (.int .i64 0), (.int .u8 0), (.int .u8 0), (.int .u8 0), (.int .u8 0), (.int .u8 0), (.int .u8 0), (.int .u8 0), (.int .u8 0), (.int .u8 0), (.int .u8 0), (.int .u8 0), (.int .u8 0), (.int .u8 0), (.int .u8 0), (.int .u8 0), (.int .u8 0), (.int .i64 0), (.int .i64 0), (.int .u8 0), (.int .u8 0), (.int .u8 0), (.int .u8 0), (.int .u8 0), (.int .u8 0), (.int .u8 0), (.int .u8 0), (.int .u8 0), (.int .u8 0), (.int .u8 0), (.int .u8 0), (.int .u8 0), (.int .u8 0), (.int .u8 0), (.int .u8 0), (.int .i64 0), (.int .i64 0), (.int .i64 0), (.int .i64 0), (.int .i64 0), (.int .i64 0), (.int .i64 0), (.int .i64 0), (.int .i64 0), (.int .u8 0), (.int .u8 0), (.int .u8 0), (.int .u8 0), (.int .u8 0), (.int .u8 0), (.int .u8 0), (.int .u8 0), (.int .u8 0), (.int .u8 0), (.int .u8 0), (.int .u8 0), (.int .u8 0), (.int .u8 0), (.int .u8 0), (.int .u8 0), (.int .i64 0), (.int .i64 0), (.int .u8 0), (.int .u8 0), (.int .u8 0), (.int .u8 0), (.int .u8 0), (.int .u8 0), (.int .u8 0), (.int .u8 0), (.int .u8 0), (.int .u8 0), (.int .u8 0), (.int .u8 0), (.int .u8 0), (.int .u8 0), (.int .u8 0), (.int .u8 0), (.int .i64 0), (.int .i64 0), (.int .i64 0), (.int .i64 0), (.int .i64 0), (.int .i64 0), (.int .i64 0), (.int .i64 0), (.int .i64 0), (.int .u8 0), (.int .u8 0), (.int .u8 0), (.int .u8 0), (.int .u8 0), (.int .u8 0), (.int .u8 0), (.int .u8 0), (.int .u8 0), (.int .u8 0), (.int .u8 0), (.int .u8 0), (.int .u8 0), (.int .u8 0), (.int .u8 0), (.int .u8 0), (.int .i64 0), (.int .i64 0), (.int .u8 0), (.int .u8 0), (.int .u8 0), (.int .u8 0), (.int .u8 0), (.int .u8 0), (.int .u8 0), (.int .u8 0), (.int .u8 0), (.int .u8 0), (.int .u8 0), (.int .u8 0), (.int .u8 0), (.int .u8 0), (.int .u8 0), (.int .u8 0), (.int .i64 0), (.int .i64 0), (.int .i64 0), (.int .i64 0), (.int .i64 0), (.int .i64 0), (.int .i64 0), (.int .i64 0)] 4 [(0, 43, (.t 42)), (43, 43, (.t 43)), (86, 43, (.t 44)), (129, 43, (.t 45))]),
    .call (some 47) none (.c (.fn (.func 22) [] [])) [(.t 46)],
    .op (some 41) none (.mv (.t 47)),
    .op (some 48) none (.ext (.t 41) 0),
    .op (some 49) none (.ext (.t 41) 1),
    .op (some 11) none (.alloc [(.int .i64 0), (.int .i64 0)]),
    .op (some 10) none (.mv (.t 48)),
    .op none none (.store 2 (.t 11) (.t 49))]
def c6r10 : List AStm := [.op (some 51) none (.load (some 43) (.t 1)),
    .op (some 52) none (.build [(.int .i64 0), (.int .u8 0), (.int .u8 0), (.int .u8 0), (.int .u8 0), (.int .u8 0), (.int .u8 0), (.int .u8 0), (.int .u8 0), (.int .u8 0), (.int .u8 0), (.int .u8 0), (.int .u8 0), (.int .u8 0), (.int .u8 0), (.int .u8 0), (.int .u8 0), (.int .i64 0), (.int .i64 0), (.int .u8 0), (.int .u8 0), (.int .u8 0), (.int .u8 0), (.int .u8 0), (.int .u8 0), (.int .u8 0), (.int .u8 0), (.int .u8 0), (.int .u8 0), (.int .u8 0), (.int .u8 0), (.int .u8 0), (.int .u8 0), (.int .u8 0), (.int .u8 0), (.int .i64 0), (.int .i64 0), (.int .i64 0), (.int .i64 0), (.int .i64 0), (.int .i64 0), (.int .i64 0), (.int .i64 0)] []),
    .op (some 53) none (.bslice 43 [(.int .i64 0), (.int .u8 0), (.int .u8 0), (.int .u8 0), (.int .u8 0), (.int .u8 0), (.int .u8 0), (.int .u8 0), (.int .u8 0), (.int .u8 0), (.int .u8 0), (.int .u8 0), (.int .u8 0), (.int .u8 0), (.int .u8 0), (.int .u8 0), (.int .u8 0), (.int .i64 0), (.int .i64 0), (.int .u8 0), (.int .u8 0), (.int .u8 0), (.int .u8 0), (.int .u8 0), (.int .u8 0), (.int .u8 0), (.int .u8 0), (.int .u8 0), (.int .u8 0), (.int .u8 0), (.int .u8 0), (.int .u8 0), (.int .u8 0), (.int .u8 0), (.int .u8 0), (.int .i64 0), (.int .i64 0), (.int .i64 0), (.int .i64 0), (.int .i64 0), (.int .i64 0), (.int .i64 0), (.int .i64 0), (.int .i64 0), (.int .u8 0), (.int .u8 0), (.int .u8 0), (.int .u8 0), (.int .u8 0), (.int .u8 0), (.int .u8 0), (.int .u8 0), (.int .u8 0), (.int .u8 0), (.int .u8 0), (.int .u8 0), (.int .u8 0), (.int .u8 0), (.int .u8 0), (.int .u8 0), (.int .i64 0), (.int .i64 0), (.int .u8 0), (.int .u8 0), (.int .u8 0), (.int .u8 0), (.int .u8 0), (.int .u8 0), (.int .u8 0), (.int .u8 0), (.int .u8 0), (.int .u8 0), (.int .u8 0), (.int .u8 0), (.int .u8 0), (.int .u8 0), (.int .u8 0), (.int .u8 0), (.int .i64 0), (.int .i64 0), (.int .i64 0), (.int .i64 0), (.int .i64 0), (.int .i64 0), (.int .i64 0), (.int .i64 0)] 2 [(0, 43, (.t 51)), (43, 43, (.t 52))]),
    .call (some 54) none (.c (.fn (.func 21) [] [])) [(.t 53)],
    .op (some 50) none (.mv (.t 54)),
    .op (some 55) none (.ext (.t 50) 0),
    .op (some 56) none (.ext (.t 50) 1),
    .op (some 13) none (.alloc [(.int .i64 0), (.int .i64 0)]),
    .op (some 12) none (.mv (.t 55)),
    .op none none (.store 2 (.t 13) (.t 56))]
def c6r11 : List AStm := [.op (some 57) none (.load (some 43) (.t 1)),
    .op (some 58) none (.load (some 43) (.t 2)),
    .call (some 59) none (.c (.fn (.func 7) [] [])) [(.t 57), (.t 58)],
    .op (some 60) none (.mv (.t 59)),
    .op (some 61) (some (60, true)) (.load (some 43) (.t 2)),
    .op (some 62) (some (60, true)) (.load (some 43) (.t 1)),
    .call (some 63) (some (60, true)) (.c (.fn (.func 7) [] [])) [(.t 61), (.t 62)],
    .op (some 64) (some (60, true)) (.un .not (.t 63)),
    .op (some 65) none (.pick (.t 60) (.t 64) (.c (.bool false))),
    .op (some 66) none (.mv (.t 65)),
    .op (some 67) (some (66, true)) (.load (some 43) (.t 1)),
    .op (some 68) (some (66, true)) (.load (some 43) (.t 2)),
    .call (some 69) (some (66, true)) (.c (.fn (.func 9) [] [])) [(.t 67), (.t 68)],
    .op (some 70) none (.pick (.t 66) (.t 69) (.c (.bool false))),
    .op (some 71) none (.mv (.t 70)),
    .op (some 72) (some (71, true)) (.mv (.t 5)),
    .op (some 73) none (.pick (.t 71) (.t 72) (.c (.bool false))),
    .op (some 74) none (.mv (.t 73)),
    .op (some 75) (some (74, true)) (.load (some 38) (.t 4)),
    .op (some 76) (some (74, true)) (.build [(.int .i64 0), (.int .u8 0), (.int .u8 0), (.int .u8 0), (.int .u8 0), (.int .u8 0), (.int .u8 0), (.int .u8 0), (.int .u8 0), (.int .u8 0), (.int .u8 0), (.int .u8 0), (.int .u8 0), (.int .u8 0), (.int .u8 0), (.int .u8 0), (.int .u8 0), (.int .u8 0), (.int .u8 0), (.int .u8 0), (.int .u8 0), (.int .u8 0), (.int .u8 0), (.int .u8 0), (.int .u8 0), (.int .u8 0), (.int .u8 0), (.int .u8 0), (.int .u8 0), (.int .u8 0), (.int .u8 0), (.int .u8 0), (.int .u8 0), (.int .i64 0), (.int .i64 0), (.bool false), (.int .i64 0), (.int .i64 0)] [(0, 1, (.c (.int .i64 4))), (33, 1, (.c (.int .i64 6))), (35, 1, (.c (.bool true))), (37, 1, (.c (.int .i64 53)))]),
    .op (some 77) (some (74, true)) (.eqa false [.ki, .ki, .ki, .ki, .ki, .ki, .ki, .ki, .ki, .ki, .ki, .ki, .ki, .ki, .ki, .ki, .ki, .ki, .ki, .ki, .ki, .ki, .ki, .ki, .ki, .ki, .ki, .ki, .ki, .ki, .ki, .ki, .ki, .ki, .ki, .kb, .ki, .ki] (.t 75) (.t 76)),
    .op (some 78) none (.pick (.t 74) (.t 77) (.c (.bool false))),
    .op (some 79) none (.mv (.t 78)),
    .op (some 80) (some (79, true)) (.mv (.t 7)),
    .op (some 81) (some (79, true)) (.un .not (.t 80)),
    .op (some 82) none (.pick (.t 79) (.t 81) (.c (.bool false))),
    .op (some 83) none (.mv (.t 82)),
    .op (some 84) (some (83, true)) (.load (some 43) (.t 3)),
    .call (some 85) (some (83, true)) (.c (.fn (.func 10) [] [])) [(.t 84)],
    .op (some 86) none (.pick (.t 83) (.t 85) (.c (.bool false))),
    .op (some 87) none (.mv (.t 86)),
    .op (some 88) (some (87, true)) (.load (some 43) (.t 2)),
    .call (some 89) (some (87, true)) (.c (.fn (.func 10) [] [])) [(.t 88)],
    .op (some 90) (some (87, true)) (.un .not (.t 89)),
    .op (some 91) none (.pick (.t 87) (.t 90) (.c (.bool false))),
    .op (some 92) none (.mv (.t 91)),
    .op (some 93) (some (92, true)) (.load (some 2) (.t 9)),
    .op (some 94) (some (92, true)) (.build [(.int .i64 0), (.int .i64 0)] []),
    .op (some 95) (some (92, true)) (.eqa false [.ki, .ki] (.t 93) (.t 94)),
    .op (some 96) none (.pick (.t 92) (.t 95) (.c (.bool false))),
    .op (some 97) none (.mv (.t 96)),
    .op (some 98) (some (97, true)) (.mv (.t 8)),
    .op (some 99) (some (97, true)) (.build [(.int .i64 0), (.int .i64 0), (.int .i64 0)] [(0, 1, (.c (.int .i64 3))), (1, 1, (.c (.int .i64 1))), (2, 1, (.c (.int .i64 0)))]),
    .op (some 100) (some (97, true)) (.build [(.int .i64 0), (.int .i64 0), (.int .i64 0)] [(0, 1, (.c (.int .i64 1))), (1, 1, (.c (.int .i64 2))), (2, 1, (.c (.int .i64 2)))]),
    .op (some 101) (some (97, true)) (.build [(.int .i64 0), (.int .i64 0), (.int .i64 0)] [(0, 1, (.c (.int .i64 2))), (1, 1, (.c (.int .i64 3))), (2, 1, (.c (.int .i64 0)))]),
    .op (some 102) (some (97, true)) (.bslice 3 (List.replicate 9 (.int .i64 0)) 3 [(0, 3, (.t 99)), (3, 3, (.t 100)), (6, 3, (.t 101))]),
    .call (some 103) (some (97, true)) (.c (.fn (.func 23) [] [])) [(.t 98), (.t 102)],
    .op (some 104) none (.pick (.t 97) (.t 103) (.c (.bool false))),
    .op (some 105) none (.mv (.t 104)),
    .op (some 106) (some (105, true)) (.load (some 2) (.t 11)),
    .op (some 107) (some (105, true)) (.build [(.int .i64 0), (.int .i64 0)] []),
    .op (some 108) (some (105, true)) (.eqa false [.ki, .ki] (.t 106) (.t 107)),
    .op (some 109) none (.pick (.t 105) (.t 108) (.c (.bool false))),
    .op (some 110) none (.mv (.t 109)),
    .op (some 111) (some (110, true)) (.mv (.t 10)),
    .op (some 112) (some (110, true)) (.len false (.t 111)),
    .op (some 113) (some (110, true)) (.bin .eql (.t 112) (.c (.int .i64 2))),
    .op (some 114) none (.pick (.t 110) (.t 113) (.c (.bool false))),
    .op (some 115) none (.mv (.t 114)),
    .op (some 116) (some (115, true)) (.load (some 2) (.t 13)),
    .op (some 117) (some (115, true)) (.build [(.int .i64 0), (.int .i64 0)] [(0, 1, (.c (.int .i64 4))), (1, 1, (.c (.int .i64 1)))]),
    .op (some 118) (some (115, true)) (.eqa false [.ki, .ki] (.t 116) (.t 117)),
    .op (some 119) none (.pick (.t 115) (.t 118) (.c (.bool false))),
    .op (some 0) none (.mv (.t 119))]
def c6 : CF := ⟨.seq (.reg c6r0) (.seq (.reg c6r1) (.seq (.reg c6r2) (.seq (.reg c6r3) (.seq (.reg c6r4) (.seq (.reg c6r5) (.seq (.dreg c6r6 c6r7) (.seq (.reg c6r8) (.seq (.reg c6r9) (.seq (.reg c6r10) (.seq (.reg c6r11) (.ret))))))))))), [.tmp 0], 120⟩
theorem cf6 : cfun Tryd.prog 6 = some c6 := by kernel_rfl

/-! ### weighbridge/shadow.Covers, params 2 -/
def c7r0 : List AStm := [.op (some 2) none (.box (.t 0)),
    .op (some 3) none (.box (.t 1)),
    .op (some 4) none (.mv (.c (.bool false)))]
def c7r1 : List AStm := [.op (some 6) none (.load (some 43) (.t 2)),
    .op (some 7) none (.load (some 43) (.t 3)),
    .op (some 8) none (.bslice 43 [(.int .i64 0), (.int .u8 0), (.int .u8 0), (.int .u8 0), (.int .u8 0), (.int .u8 0), (.int .u8 0), (.int .u8 0), (.int .u8 0), (.int .u8 0), (.int .u8 0), (.int .u8 0), (.int .u8 0), (.int .u8 0), (.int .u8 0), (.int .u8 0), (.int .u8 0), (.int .i64 0), (.int .i64 0), (.int .u8 0), (.int .u8 0), (.int .u8 0), (.int .u8 0), (.int .u8 0), (.int .u8 0), (.int .u8 0), (.int .u8 0), (.int .u8 0), (.int .u8 0), (.int .u8 0), (.int .u8 0), (.int .u8 0), (.int .u8 0), (.int .u8 0), (.int .u8 0), (.int .i64 0), (.int .i64 0), (.int .i64 0), (.int .i64 0), (.int .i64 0), (.int .i64 0), (.int .i64 0), (.int .i64 0), (.int .i64 0), (.int .u8 0), (.int .u8 0), (.int .u8 0), (.int .u8 0), (.int .u8 0), (.int .u8 0), (.int .u8 0), (.int .u8 0), (.int .u8 0), (.int .u8 0), (.int .u8 0), (.int .u8 0), (.int .u8 0), (.int .u8 0), (.int .u8 0), (.int .u8 0), (.int .i64 0), (.int .i64 0), (.int .u8 0), (.int .u8 0), (.int .u8 0), (.int .u8 0), (.int .u8 0), (.int .u8 0), (.int .u8 0), (.int .u8 0), (.int .u8 0), (.int .u8 0), (.int .u8 0), (.int .u8 0), (.int .u8 0), (.int .u8 0), (.int .u8 0), (.int .u8 0), (.int .i64 0), (.int .i64 0), (.int .i64 0), (.int .i64 0), (.int .i64 0), (.int .i64 0), (.int .i64 0), (.int .i64 0)] 2 [(0, 43, (.t 6)), (43, 43, (.t 7))]),
    .call (some 9) none (.c (.fn (.func 12) [] [])) [(.t 8)],
    .op (some 10) none (.un .not (.t 9)),
    .op (some 11) none (.mv (.t 10)),
    .op (some 12) (some (11, false)) (.faddr 0 (.t 3)),
    .op (some 13) (some (11, false)) (.load (some 18) (.t 12)),
    .op (some 14) (some (11, false)) (.faddr 0 (.t 2)),
    .op (some 15) (some (11, false)) (.load (some 18) (.t 14)),
    .call (some 16) (some (11, false)) (.c (.fn (.func 24) [] [])) [(.t 13), (.t 15)],
    .op (some 17) (some (11, false)) (.un .not (.t 16)),
    .op (some 18) none (.pick (.t 11) (.c (.bool true)) (.t 17)),
    .op (some 19) none (.mv (.t 18)),
    .op (some 20) (some (19, false)) (.faddr 18 (.t 3)),
    .op (some 21) (some (19, false)) (.load (some 18) (.t 20)),
    .op (some 22) (some (19, false)) (.faddr 18 (.t 2)),
    .op (some 23) (some (19, false)) (.load (some 18) (.t 22)),
    .call (some 24) (some (19, false)) (.c (.fn (.func 24) [] [])) [(.t 21), (.t 23)],
    .op (some 25) (some (19, false)) (.un .not (.t 24)),
    .op (some 26) none (.pick (.t 19) (.c (.bool true)) (.t 25))]
def c7r2 : List AStm := [.op (some 4) none (.mv (.c (.bool false)))]
def c7r3 : List AStm := [.op (some 5) none (.mv (.c (.fn (.func 25) [] [])))]
def c7r4 : List AStm := [.op (some 27) none (.faddr 36 (.t 2)),
    .op (some 28) none (.load (some 2) (.t 27)),
    .op (some 29) none (.faddr 36 (.t 3)),
    .op (some 30) none (.load (some 2) (.t 29)),
    .call (some 31) none (.c (.fn (.func 26) [] [])) [(.t 28), (.t 30)],
    .op (some 32) none (.mv (.t 31)),
    .op (some 33) (some (32, true)) (.faddr 38 (.t 2)),
    .op (some 34) (some (32, true)) (.load (some 2) (.t 33)),
    .op (some 35) (some (32, true)) (.faddr 38 (.t 3)),
    .op (some 36) (some (32, true)) (.load (some 2) (.t 35)),
    .call (some 37) (some (32, true)) (.c (.fn (.func 26) [] [])) [(.t 34), (.t 36)],
    .op (some 38) none (.pick (.t 32) (.t 37) (.c (.bool false))),
    .op (some 39) none (.mv (.t 38)),
    .op (some 40) (some (39, true)) (.mv (.t 5)),
    .op (some 41) (some (39, true)) (.faddr 40 (.t 2)),
    .op (some 42) (some (39, true)) (.load none (.t 41)),
    .op (some 43) (some (39, true)) (.faddr 40 (.t 3)),
    .op (some 44) (some (39, true)) (.load none (.t 43)),
    .call (some 45) (some (39, true)) (.t 40) [(.t 42), (.t 44)],
    .op (some 46) none (.pick (.t 39) (.t 45) (.c (.bool false))),
    .op (some 47) none (.mv (.t 46)),
    .op (some 48) (some (47, true)) (.mv (.t 5)),
    .op (some 49) (some (47, true)) (.faddr 41 (.t 2)),
    .op (some 50) (some (47, true)) (.load none (.t 49)),
    .op (some 51) (some (47, true)) (.faddr 41 (.t 3)),
    .op (some 52) (some (47, true)) (.load none (.t 51)),
    .call (some 53) (some (47, true)) (.t 48) [(.t 50), (.t 52)],
    .op (some 54) none (.pick (.t 47) (.t 53) (.c (.bool false))),
    .op (some 4) none (.mv (.t 54))]
def c7 : CF := ⟨.seq (.reg c7r0) (.seq (.seq (.reg c7r1) (.cond (.t 26) (.seq (.reg c7r2) (.ret)) (.skip))) (.seq (.reg c7r3) (.seq (.reg c7r4) (.ret)))), [.tmp 4], 55⟩
theorem cf7 : cfun Tryd.prog 7 = some c7 := by kernel_rfl

/-! ### weighbridge/shadow.Meets, params 2 -/
def c9r0 : List AStm := [.op (some 2) none (.box (.t 0)),
    .op (some 3) none (.box (.t 1)),
    .op (some 4) none (.mv (.c (.bool false)))]
def c9r1 : List AStm := [.op (some 8) none (.load (some 43) (.t 2)),
    .op (some 9) none (.load (some 43) (.t 3)),
    .call (some 10) none (.c (.fn (.func 4) [] [])) [(.t 8), (.t 9)],
    .op (some 7) none (.mv (.t 10)),
    .op (some 11) none (.ext (.t 7) 0),
    .op (some 12) none (.ext (.t 7) 1),
    .op (some 5) none (.alloc [(.int .i64 0), (.int .u8 0), (.int .u8 0), (.int .u8 0), (.int .u8 0), (.int .u8 0), (.int .u8 0), (.int .u8 0), (.int .u8 0), (.int .u8 0), (.int .u8 0), (.int .u8 0), (.int .u8 0), (.int .u8 0), (.int .u8 0), (.int .u8 0), (.int .u8 0), (.int .u8 0), (.int .u8 0), (.int .u8 0), (.int .u8 0), (.int .u8 0), (.int .u8 0), (.int .u8 0), (.int .u8 0), (.int .u8 0), (.int .u8 0), (.int .u8 0), (.int .u8 0), (.int .u8 0), (.int .u8 0), (.int .u8 0), (.int .u8 0), (.int .i64 0), (.int .i64 0), (.bool false), (.int .i64 0), (.int .i64 0)]),
    .op none none (.store 38 (.t 5) (.t 11)),
    .op (some 6) none (.mv (.t 12))]
def c9r2 : List AStm := [.op (some 13) none (.mv (.t 6)),
    .op (some 4) none (.mv (.t 13))]
def c9 : CF := ⟨.seq (.reg c9r0) (.seq (.reg c9r1) (.seq (.reg c9r2) (.ret))), [.tmp 4], 14⟩
theorem cf9 : cfun Tryd.prog 9 = some c9 := by kernel_rfl

/-! ### weighbridge/shadow.Dead, params 1 -/
def c10r0 : List AStm := [.op (some 1) none (.box (.t 0)),
    .op (some 2) none (.mv (.c (.bool false)))]
def c10r1 : List AStm := []
def c10r2 : List AStm := [.op (some 4) none (.faddr 36 (.t 1)),
    .op (some 5) none (.load (some 2) (.t 4)),
    .callG (some 6) none (.c (.fn (.func 29) [] [])) [],
    .op (some 7) none (.eqa true [.ki, .ki] (.t 5) (.t 6)),
    .op (some 8) none (.mv (.t 7)),
    .op (some 9) (some (8, false)) (.faddr 38 (.t 1)),
    .op (some 10) (some (8, false)) (.load (some 2) (.t 9)),
    .callG (some 11) (some (8, false)) (.c (.fn (.func 29) [] [])) [],
    .op (some 12) (some (8, false)) (.eqa true [.ki, .ki] (.t 10) (.t 11)),
    .op (some 13) none (.pick (.t 8) (.c (.bool true)) (.t 12)),
    .op (some 3) none (.mv (.t 13))]
def c10r3 : List AStm := [.op (some 14) none (.load (some 43) (.t 1)),
    .op (some 15) none (.bslice 43 [(.int .i64 0), (.int .u8 0), (.int .u8 0), (.int .u8 0), (.int .u8 0), (.int .u8 0), (.int .u8 0), (.int .u8 0), (.int .u8 0), (.int .u8 0), (.int .u8 0), (.int .u8 0), (.int .u8 0), (.int .u8 0), (.int .u8 0), (.int .u8 0), (.int .u8 0), (.int .i64 0), (.int .i64 0), (.int .u8 0), (.int .u8 0), (.int .u8 0), (.int .u8 0), (.int .u8 0), (.int .u8 0), (.int .u8 0), (.int .u8 0), (.int .u8 0), (.int .u8 0), (.int .u8 0), (.int .u8 0), (.int .u8 0), (.int .u8 0), (.int .u8 0), (.int .u8 0), (.int .i64 0), (.int .i64 0), (.int .i64 0), (.int .i64 0), (.int .i64 0), (.int .i64 0), (.int .i64 0), (.int .i64 0)] 1 [(0, 43, (.t 14))]),
    .call (some 16) none (.c (.fn (.func 12) [] [])) [(.t 15)],
    .op (some 17) none (.mv (.t 16)),
    .op (some 18) (some (17, true)) (.mv (.t 3)),
    .op (some 19) none (.pick (.t 17) (.t 18) (.c (.bool false))),
    .op (some 20) none (.mv (.t 19)),
    .op (some 21) (some (20, true)) (.faddr 40 (.t 1)),
    .op (some 22) (some (20, true)) (.load none (.t 21)),
    .op (some 23) (some (20, true)) (.bin .neq (.t 22) (.c (.int .i64 (-1)))),
    .op (some 24) none (.pick (.t 20) (.t 23) (.c (.bool false))),
    .op (some 25) none (.mv (.t 24)),
    .op (some 26) (some (25, true)) (.faddr 40 (.t 1)),
    .op (some 27) (some (25, true)) (.load none (.t 26)),
    .call (some 28) (some (25, true)) (.c (.fn (.func 30) [] [])) [(.t 27)],
    .op (some 29) (some (25, true)) (.bin .eql (.t 28) (.c (.int .i64 0))),
    .op (some 30) none (.pick (.t 25) (.t 29) (.c (.bool false))),
    .op (some 2) none (.mv (.t 30))]
def c10 : CF := ⟨.seq (.reg c10r0) (.seq (.dreg c10r1 c10r2) (.seq (.reg c10r3) (.ret))), [.tmp 2], 31⟩
theorem cf10 : cfun Tryd.prog 10 = some c10 := by kernel_rfl

/-! ### weighbridge/shadow.right, params 1 -/
def c12r0 : List AStm := [.op (some 2) none (.mv (.c (.bool false)))]
def c12r1 : List AStm := [.op (some 3) none (.mv (.t 0)),
    .call (some 4) none (.c (.fn (.func 33) [] [])) [(.t 3), (.c (.fn (.func 34) [] []))],
    .op (some 5) none (.un .not (.t 4)),
    .op (some 2) none (.mv (.t 5))]
def c12 : CF := ⟨.seq (.reg c12r0) (.seq (.reg c12r1) (.ret)), [.tmp 2], 6⟩
theorem cf12 : cfun Tryd.prog 12 = some c12 := by kernel_rfl

/-! ### (*weighbridge/shadow.meeting).address, params 3 -/
def c13r0 : List AStm := [.op (some 4) none (.box (.t 1)),
    .op (some 5) none (.box (.t 2)),
    .op (some 6) none (.alloc (List.replicate 16 (.int .u8 0)))]
def c13r1 : List AStm := [.op (some 7) none (.mv (.t 0)),
    .op (some 8) none (.mv (.t 0)),
    .op (some 9) none (.nilchk (.t 8)),
    .op (some 10) none (.faddr 0 (.t 9)),
    .op (some 11) none (.load none (.t 10)),
    .op (some 12) none (.mv (.t 11)),
    .op (some 13) (some (12, false)) (.load (some 18) (.t 4)),
    .op (some 14) (some (12, false)) (.load (some 18) (.t 5)),
    .call (some 15) (some (12, false)) (.c (.fn (.func 36) [] [])) [(.t 13), (.t 14)],
    .op (some 16) (some (12, false)) (.un .not (.t 15)),
    .op (some 17) none (.pick (.t 12) (.c (.bool true)) (.t 16)),
    .op (some 18) none (.nilchk (.t 7)),
    .op (some 19) none (.faddr 0 (.t 18)),
    .op none none (.store 1 (.t 19) (.t 17))]
def c13r2 : List AStm := [.op (some 20) none (.faddr 17 (.t 4)),
    .op (some 21) none (.load none (.t 20)),
    .op (some 22) none (.faddr 17 (.t 5)),
    .op (some 23) none (.load none (.t 22)),
    .op (some 24) none (.bin .gtr (.t 21) (.t 23))]
def c13r3 : List AStm := [.op (some 25) none (.faddr 1 (.t 4)),
    .op (some 26) none (.load (some 16) (.t 25)),
    .op none none (.store 16 (.t 6) (.t 26))]
def c13r4 : List AStm := [.op (some 27) none (.faddr 1 (.t 5)),
    .op (some 28) none (.load (some 16) (.t 27)),
    .op none none (.store 16 (.t 6) (.t 28))]
def c13 : CF := ⟨.seq (.reg c13r0) (.seq (.reg c13r1) (.seq (.seq (.reg c13r2) (.cond (.t 24) (.seq (.reg c13r3) (.ret)) (.skip))) (.seq (.reg c13r4) (.ret)))), [.cell 6 (some 16)], 29⟩
theorem cf13 : cfun Tryd.prog 13 = some c13 := by kernel_rfl

/-! ### (*weighbridge/shadow.meeting).port, params 3 -/
def c14r0 : List AStm := [.op (some 4) none (.box (.t 1)),
    .op (some 5) none (.box (.t 2)),
    .op (some 6) none (.mv (.c (.int .i64 0)))]
def c14r1 : List AStm := [.op (some 10) none (.load (some 2) (.t 4)),
    .op (some 11) none (.load (some 2) (.t 5)),
    .call (some 12) none (.c (.fn (.func 37) [] [])) [(.t 10), (.t 11)],
    .op (some 9) none (.mv (.t 12)),
    .op (some 13) none (.ext (.t 9) 0),
    .op (some 14) none (.ext (.t 9) 1),
    .op (some 7) none (.alloc [(.int .i64 0), (.int .i64 0)]),
    .op none none (.store 2 (.t 7) (.t 13)),
    .op (some 8) none (.mv (.t 14))]
def c14r2 : List AStm := [.op (some 15) none (.mv (.t 0)),
    .op (some 16) none (.mv (.t 0)),
    .op (some 17) none (.nilchk (.t 16)),
    .op (some 18) none (.faddr 0 (.t 17)),
    .op (some 19) none (.load none (.t 18)),
    .op (some 20) none (.mv (.t 19)),
    .op (some 21) (some (20, false)) (.mv (.t 8)),
    .op (some 22) (some (20, false)) (.un .not (.t 21)),
    .op (some 23) none (.pick (.t 20) (.c (.bool true)) (.t 22)),
    .op (some 24) none (.nilchk (.t 15)),
    .op (some 25) none (.faddr 0 (.t 24)),
    .op none none (.store 1 (.t 25) (.t 23))]
def c14r3 : List AStm := [.op (some 26) none (.faddr 0 (.t 7)),
    .op (some 27) none (.load none (.t 26)),
    .op (some 6) none (.mv (.t 27))]
def c14 : CF := ⟨.seq (.reg c14r0) (.seq (.reg c14r1) (.seq (.reg c14r2) (.seq (.reg c14r3) (.ret)))), [.tmp 6], 28⟩
theorem cf14 : cfun Tryd.prog 14 = some c14 := by kernel_rfl

/-! ### (*weighbridge/shadow.meeting).number, params 4 -/
def c15r0 : List AStm := [.op (some 8) none (.mv (.c (.int .i64 0)))]
def c15r1 : List AStm := [.op (some 10) none (.mv (.t 1)),
    .op (some 11) none (.bin .eql (.t 10) (.c (.int .i64 (-1)))),
    .op (some 12) none (.mv (.t 11)),
    .op (some 13) (some (12, true)) (.mv (.t 2)),
    .op (some 14) (some (12, true)) (.bin .eql (.t 13) (.c (.int .i64 (-1)))),
    .op (some 15) none (.pick (.t 12) (.t 14) (.c (.bool false))),
    .op (some 9) none (.mv (.t 15))]
def c15r2 : List AStm := [.op (some 16) none (.mv (.t 3)),
    .op (some 8) none (.mv (.t 16))]
def c15r3 : List AStm := [.op (some 18) none (.mv (.t 1)),
    .op (some 19) none (.bin .eql (.t 18) (.c (.int .i64 (-1)))),
    .op (some 17) none (.mv (.t 19))]
def c15r4 : List AStm := [.op (some 20) none (.mv (.t 2)),
    .op (some 8) none (.mv (.t 20))]
def c15r5 : List AStm := [.op (some 22) none (.mv (.t 2)),
    .op (some 23) none (.bin .neq (.t 22) (.c (.int .i64 (-1)))),
    .op (some 24) none (.mv (.t 23)),
    .op (some 25) (some (24, true)) (.mv (.t 1)),
    .op (some 26) (some (24, true)) (.mv (.t 2)),
    .op (some 27) (some (24, true)) (.bin .neq (.t 25) (.t 26)),
    .op (some 28) none (.pick (.t 24) (.t 27) (.c (.bool false))),
    .op (some 21) none (.mv (.t 28))]
def c15r6 : List AStm := [.op (some 29) none (.mv (.t 0)),
    .op (some 30) none (.nilchk (.t 29)),
    .op (some 31) none (.faddr 0 (.t 30)),
    .op none none (.store 1 (.t 31) (.c (.bool true)))]
def c15r7 : List AStm := [.op (some 32) none (.mv (.t 1)),
    .op (some 8) none (.mv (.t 32))]
def c15 : CF := ⟨.seq (.reg c15r0) (.seq (.block 0 (.seq (.reg c15r1) (.cond (.t 9) (.seq (.reg c15r2) (.ret)) (.seq (.reg c15r3) (.cond (.t 17) (.seq (.reg c15r4) (.ret)) (.seq (.reg c15r5) (.cond (.t 21) (.reg c15r6) (.skip)))))))) (.seq (.reg c15r7) (.ret))), [.tmp 8], 33⟩
theorem cf15 : cfun Tryd.prog 15 = some c15 := by kernel_rfl

/-! ### weighbridge/rule.Any, params 2 -/
def c20r0 : List AStm := [.op (some 4) none (.alloc [(.int .i64 0), (.int .u8 0), (.int .u8 0), (.int .u8 0), (.int .u8 0), (.int .u8 0), (.int .u8 0), (.int .u8 0), (.int .u8 0), (.int .u8 0), (.int .u8 0), (.int .u8 0), (.int .u8 0), (.int .u8 0), (.int .u8 0), (.int .u8 0), (.int .u8 0), (.int .i64 0), (.int .i64 0), (.int .u8 0), (.int .u8 0), (.int .u8 0), (.int .u8 0), (.int .u8 0), (.int .u8 0), (.int .u8 0), (.int .u8 0), (.int .u8 0), (.int .u8 0), (.int .u8 0), (.int .u8 0), (.int .u8 0), (.int .u8 0), (.int .u8 0), (.int .u8 0), (.int .i64 0), (.int .i64 0), (.int .i64 0), (.int .i64 0), (.int .i64 0), (.int .i64 0), (.int .i64 0), (.int .i64 0)])]
def c20r1 : List AStm := [.op (some 5) none (.mv (.t 0)),
    .call (some 6) none (.c (.fn (.func 39) [] [])) [(.t 5)],
    .op (some 7) none (.mv (.t 0)),
    .call (some 8) none (.c (.fn (.func 39) [] [])) [(.t 7)],
    .call (some 9) none (.c (.fn (.func 29) [] [])) [],
    .call (some 10) none (.c (.fn (.func 29) [] [])) [],
    .op (some 11) none (.mv (.t 1)),
    .op (some 12) none (.build [(.int .i64 0), (.int .u8 0), (.int .u8 0), (.int .u8 0), (.int .u8 0), (.int .u8 0), (.int .u8 0), (.int .u8 0), (.int .u8 0), (.int .u8 0), (.int .u8 0), (.int .u8 0), (.int .u8 0), (.int .u8 0), (.int .u8 0), (.int .u8 0), (.int .u8 0), (.int .i64 0), (.int .i64 0), (.int .u8 0), (.int .u8 0), (.int .u8 0), (.int .u8 0), (.int .u8 0), (.int .u8 0), (.int .u8 0), (.int .u8 0), (.int .u8 0), (.int .u8 0), (.int .u8 0), (.int .u8 0), (.int .u8 0), (.int .u8 0), (.int .u8 0), (.int .u8 0), (.int .i64 0), (.int .i64 0), (.int .i64 0), (.int .i64 0), (.int .i64 0), (.int .i64 0), (.int .i64 0), (.int .i64 0)] [(0, 18, (.t 6)), (18, 18, (.t 8)), (36, 2, (.t 9)), (38, 2, (.t 10)), (40, 1, (.c (.int .i64 (-1)))), (41, 1, (.c (.int .i64 (-1)))), (42, 1, (.t 11))]),
    .op none none (.store 43 (.t 4) (.t 12))]
def c20 : CF := ⟨.seq (.reg c20r0) (.seq (.reg c20r1) (.ret)), [.cell 4 (some 43)], 13⟩
theorem cf20 : cfun Tryd.prog 20 = some c20 := by kernel_rfl

/-! ### weighbridge/shadow.Lint, params 1 -/
def c21r0 : List AStm := [.op (some 2) none (.mv (.c .nils)),
    .op (some 3) none (.alloc [(.int .i64 0), (.int .i64 0)])]
def c21r1 : List AStm := [.op (some 13) none (.mv (.t 0)),
    .call (some 14) none (.c (.fn (.func 40) [] [])) [(.t 13)],
    .op (some 12) none (.mv (.t 14)),
    .op (some 15) none (.ext (.t 12) 0),
    .op (some 16) none (.ext (.t 12) 1),
    .op (some 5) none (.alloc [(.int .i64 0), (.int .i64 0)]),
    .op (some 4) none (.mv (.t 15)),
    .op none none (.store 2 (.t 5) (.t 16))]
def c21r2 : List AStm := [.op (some 17) none (.faddr 0 (.t 5)),
    .op (some 18) none (.load none (.t 17)),
    .op (some 19) none (.bin .neq (.t 18) (.c (.int .i64 0)))]
def c21r3 : List AStm := [.op (some 20) none (.load (some 2) (.t 5)),
    .op (some 2) none (.mv (.c .nils)),
    .op none none (.store 2 (.t 3) (.t 20))]
def c21r4 : List AStm := []
def c21r5 : List AStm := [.op (some 21) none (.mv (.t 0)),
    .call (some 22) none (.c (.fn (.func 41) [] [])) [(.t 21)],
    .op (some 6) none (.mv (.t 22))]
def c21r6 : List AStm := [.op (some 7) none (.mv (.c .nils))]
def c21r7 : List AStm := [.op (some 23) none (.mv (.t 6)),
    .op (some 24) none (.len false (.t 23)),
    .op (some 25) none (.mv (.c (.int .i64 0)))]
def c21r8 : List AStm := [.op (some 26) none (.bin .lss (.t 25) (.t 24))]
def c21r9 : List AStm := [.op (some 27) none (.mv (.t 25)),
    .op (some 28) none (.ixs 2 (.t 23) (.t 25)),
    .op (some 29) none (.load (some 2) (.t 28)),
    .op (some 9) none (.alloc [(.int .i64 0), (.int .i64 0)]),
    .op (some 8) none (.mv (.t 27)),
    .op none none (.store 2 (.t 9) (.t 29))]
def c21r10 : List AStm := [.op (some 30) none (.faddr 0 (.t 9)),
    .op (some 31) none (.load none (.t 30)),
    .op (some 32) none (.bin .neq (.t 31) (.c (.int .i64 0)))]
def c21r11 : List AStm := [.op (some 33) none (.mv (.t 7)),
    .op (some 34) none (.faddr 0 (.t 9)),
    .op (some 35) none (.load none (.t 34)),
    .op (some 36) none (.mv (.t 8)),
    .op (some 37) none (.faddr 1 (.t 9)),
    .op (some 38) none (.load none (.t 37)),
    .op (some 39) none (.build [(.int .i64 0), (.int .i64 0), (.int .i64 0)] [(0, 1, (.t 35)), (1, 1, (.t 36)), (2, 1, (.t 38))]),
    .op (some 40) none (.bslice 3 [(.int .i64 0), (.int .i64 0), (.int .i64 0)] 1 [(0, 3, (.t 39))]),
    .op (some 41) none (.append false 3 24 (.t 33) (.t 40)),
    .op (some 7) none (.mv (.t 41))]
def c21r12 : List AStm := [.op (some 42) none (.mv (.t 6)),
    .op (some 43) none (.mv (.t 8)),
    .op (some 44) none (.slc 2 (.t 42) none (some (.t 43))),
    .op (some 45) none (.len false (.t 44)),
    .op (some 46) none (.mv (.c (.int .i64 0)))]
def c21r13 : List AStm := [.op (some 47) none (.bin .lss (.t 46) (.t 45))]
def c21r14 : List AStm := [.op (some 48) none (.mv (.t 46)),
    .op (some 49) none (.ixs 2 (.t 44) (.t 46)),
    .op (some 50) none (.load (some 2) (.t 49)),
    .op (some 11) none (.alloc [(.int .i64 0), (.int .i64 0)]),
    .op (some 10) none (.mv (.t 48)),
    .op none none (.store 2 (.t 11) (.t 50))]
def c21r15 : List AStm := []
def c21r16 : List AStm := [.op (some 51) none (.faddr 0 (.t 11)),
    .op (some 52) none (.load none (.t 51)),
    .op (some 53) none (.bin .eql (.t 52) (.c (.int .i64 0))),
    .op (some 54) none (.mv (.t 53)),
    .op (some 55) (some (54, true)) (.mv (.t 0)),
    .op (some 56) (some (54, true)) (.mv (.t 8)),
    .op (some 57) (some (54, true)) (.ixs 43 (.t 55) (.t 56)),
    .op (some 58) (some (54, true)) (.faddr 42 (.t 57)),
    .op (some 59) (some (54, true)) (.load none (.t 58)),
    .op (some 60) (some (54, true)) (.mv (.t 0)),
    .op (some 61) (some (54, true)) (.mv (.t 10)),
    .op (some 62) (some (54, true)) (.ixs 43 (.t 60) (.t 61)),
    .op (some 63) (some (54, true)) (.faddr 42 (.t 62)),
    .op (some 64) (some (54, true)) (.load none (.t 63)),
    .op (some 65) (some (54, true)) (.bin .neq (.t 59) (.t 64)),
    .op (some 66) none (.pick (.t 54) (.t 65) (.c (.bool false))),
    .op (some 67) none (.mv (.t 66)),
    .op (some 68) (some (67, true)) (.mv (.t 0)),
    .op (some 69) (some (67, true)) (.mv (.t 10)),
    .op (some 70) (some (67, true)) (.ixs 43 (.t 68) (.t 69)),
    .op (some 71) (some (67, true)) (.load (some 43) (.t 70)),
    .op (some 72) (some (67, true)) (.mv (.t 0)),
    .op (some 73) (some (67, true)) (.mv (.t 8)),
    .op (some 74) (some (67, true)) (.ixs 43 (.t 72) (.t 73)),
    .op (some 75) (some (67, true)) (.load (some 43) (.t 74)),
    .callG (some 76) (some (67, true)) (.c (.fn (.func 9) [] [])) [(.t 71), (.t 75)],
    .op (some 77) none (.pick (.t 67) (.t 76) (.c (.bool false)))]
def c21r17 : List AStm := [.op (some 78) none (.mv (.t 7)),
    .op (some 79) none (.mv (.t 8)),
    .op (some 80) none (.mv (.t 10)),
    .op (some 81) none (.build [(.int .i64 0), (.int .i64 0), (.int .i64 0)] [(0, 1, (.c (.int .i64 3))), (1, 1, (.t 79)), (2, 1, (.t 80))]),
    .op (some 82) none (.bslice 3 [(.int .i64 0), (.int .i64 0), (.int .i64 0)] 1 [(0, 3, (.t 81))]),
    .op (some 83) none (.append false 3 24 (.t 78) (.t 82)),
    .op (some 7) none (.mv (.t 83))]
def c21r18 : List AStm := [.op (some 84) none (.bin .add (.t 46) (.c (.int .i64 1))),
    .op (some 46) none (.mv (.t 84))]
def c21l19 : AC := .seq (.reg c21r13) (.seq (.cond (.t 47) (.skip) (.exit 2)) (.seq (.block 3 (.seq (.reg c21r14) (.seq (.dreg c21r15 c21r16) (.cond (.t 77) (.reg c21r17) (.skip))))) (.reg c21r18)))
def c21r20 : List AStm := [.op (some 85) none (.bin .add (.t 25) (.c (.int .i64 1))),
    .op (some 25) none (.mv (.t 85))]
def c21l21 : AC := .seq (.reg c21r8) (.seq (.cond (.t 26) (.skip) (.exit 0)) (.seq (.block 1 (.seq (.reg c21r9) (.seq (.seq (.reg c21r10) (.cond (.t 32) (.seq (.reg c21r11) (.exit 1)) (.skip))) (.seq (.reg c21r12) (.block 2 (.loop c21l19)))))) (.reg c21r20)))
def c21r22 : List AStm := [.op (some 86) none (.mv (.t 7)),
    .op (some 87) none (.build [(.int .i64 0), (.int .i64 0)] []),
    .op (some 2) none (.mv (.t 86)),
    .op none none (.store 2 (.t 3) (.t 87))]
def c21 : CF := ⟨.seq (.reg c21r0) (.seq (.seq (.reg c21r1) (.seq (.reg c21r2) (.cond (.t 19) (.seq (.dreg c21r3 c21r4) (.ret)) (.skip)))) (.seq (.reg c21r5) (.seq (.reg c21r6) (.seq (.seq (.reg c21r7) (.block 0 (.loop c21l21))) (.seq (.reg c21r22) (.ret)))))), [.tmp 2, .cell 3 (some 2)], 88⟩
theorem cf21 : cfun Tryd.prog 21 = some c21 := by kernel_rfl

/-! ### weighbridge/shadow.Prune, params 1 -/
def c22r0 : List AStm := [.op (some 2) none (.mv (.c .nils)),
    .op (some 3) none (.alloc [(.int .i64 0), (.int .i64 0)])]
def c22r1 : List AStm := [.op (some 10) none (.mv (.t 0)),
    .call (some 11) none (.c (.fn (.func 40) [] [])) [(.t 10)],
    .op (some 9) none (.mv (.t 11)),
    .op (some 12) none (.ext (.t 9) 0),
    .op (some 13) none (.ext (.t 9) 1),
    .op (some 5) none (.alloc [(.int .i64 0), (.int .i64 0)]),
    .op (some 4) none (.mv (.t 12)),
    .op none none (.store 2 (.t 5) (.t 13))]
def c22r2 : List AStm := [.op (some 14) none (.faddr 0 (.t 5)),
    .op (some 15) none (.load none (.t 14)),
    .op (some 16) none (.bin .neq (.t 15) (.c (.int .i64 0)))]
def c22r3 : List AStm := [.op (some 17) none (.load (some 2) (.t 5)),
    .op (some 2) none (.mv (.c .nils)),
    .op none none (.store 2 (.t 3) (.t 17))]
def c22r4 : List AStm := []
def c22r5 : List AStm := [.op (some 6) none (.mv (.c .nils))]
def c22r6 : List AStm := [.op (some 18) none (.mv (.t 0)),
    .call (some 19) none (.c (.fn (.func 41) [] [])) [(.t 18)],
    .op (some 20) none (.len false (.t 19)),
    .op (some 21) none (.mv (.c (.int .i64 0)))]
def c22r7 : List AStm := [.op (some 22) none (.bin .lss (.t 21) (.t 20))]
def c22r8 : List AStm := [.op (some 23) none (.mv (.t 21)),
    .op (some 24) none (.ixs 2 (.t 19) (.t 21)),
    .op (some 25) none (.load (some 2) (.t 24)),
    .op (some 8) none (.alloc [(.int .i64 0), (.int .i64 0)]),
    .op (some 7) none (.mv (.t 23)),
    .op none none (.store 2 (.t 8) (.t 25))]
def c22r9 : List AStm := [.op (some 26) none (.faddr 0 (.t 8)),
    .op (some 27) none (.load none (.t 26)),
    .op (some 28) none (.bin .eql (.t 27) (.c (.int .i64 0)))]
def c22r10 : List AStm := [.op (some 29) none (.mv (.t 6)),
    .op (some 30) none (.mv (.t 0)),
    .op (some 31) none (.mv (.t 7)),
    .op (some 32) none (.ixs 43 (.t 30) (.t 31)),
    .op (some 33) none (.load (some 43) (.t 32)),
    .op (some 34) none (.bslice 43 [(.int .i64 0), (.int .u8 0), (.int .u8 0), (.int .u8 0), (.int .u8 0), (.int .u8 0), (.int .u8 0), (.int .u8 0), (.int .u8 0), (.int .u8 0), (.int .u8 0), (.int .u8 0), (.int .u8 0), (.int .u8 0), (.int .u8 0), (.int .u8 0), (.int .u8 0), (.int .i64 0), (.int .i64 0), (.int .u8 0), (.int .u8 0), (.int .u8 0), (.int .u8 0), (.int .u8 0), (.int .u8 0), (.int .u8 0), (.int .u8 0), (.int .u8 0), (.int .u8 0), (.int .u8 0), (.int .u8 0), (.int .u8 0), (.int .u8 0), (.int .u8 0), (.int .u8 0), (.int .i64 0), (.int .i64 0), (.int .i64 0), (.int .i64 0), (.int .i64 0), (.int .i64 0), (.int .i64 0), (.int .i64 0)] 1 [(0, 43, (.t 33))]),
    .op (some 35) none (.append false 43 120 (.t 29) (.t 34)),
    .op (some 6) none (.mv (.t 35))]
def c22r11 : List AStm := [.op (some 36) none (.bin .add (.t 21) (.c (.int .i64 1))),
    .op (some 21) none (.mv (.t 36))]
def c22l12 : AC := .seq (.reg c22r7) (.seq (.cond (.t 22) (.skip) (.exit 0)) (.seq (.block 1 (.seq (.reg c22r8) (.seq (.reg c22r9) (.cond (.t 28) (.reg c22r10) (.skip))))) (.reg c22r11)))
def c22r13 : List AStm := [.op (some 37) none (.mv (.t 6)),
    .op (some 38) none (.build [(.int .i64 0), (.int .i64 0)] []),
    .op (some 2) none (.mv (.t 37)),
    .op none none (.store 2 (.t 3) (.t 38))]
def c22 : CF := ⟨.seq (.reg c22r0) (.seq (.seq (.reg c22r1) (.seq (.reg c22r2) (.cond (.t 16) (.seq (.dreg c22r3 c22r4) (.ret)) (.skip)))) (.seq (.reg c22r5) (.seq (.seq (.reg c22r6) (.block 0 (.loop c22l12))) (.seq (.reg c22r13) (.ret))))), [.tmp 2, .cell 3 (some 2)], 39⟩
theorem cf22 : cfun Tryd.prog 22 = some c22 := by kernel_rfl

/-! ### weighbridge/weighbridgeref23.SameNotes, params 2 -/
def c23r0 : List AStm := [.op (some 4) none (.mv (.c (.bool false)))]
def c23r1 : List AStm := [.op (some 6) none (.mv (.t 0)),
    .op (some 7) none (.len false (.t 6)),
    .op (some 8) none (.mv (.t 1)),
    .op (some 9) none (.len false (.t 8)),
    .op (some 10) none (.bin .neq (.t 7) (.t 9))]
def c23r2 : List AStm := [.op (some 4) none (.mv (.c (.bool false)))]
def c23r3 : List AStm := [.op (some 5) none (.mv (.c (.int .i64 0)))]
def c23r4 : List AStm := [.op (some 11) none (.mv (.t 5)),
    .op (some 12) none (.mv (.t 0)),
    .op (some 13) none (.len false (.t 12)),
    .op (some 14) none (.bin .lss (.t 11) (.t 13))]
def c23r5 : List AStm := [.op (some 17) none (.mv (.t 0)),
    .op (some 18) none (.mv (.t 5)),
    .op (some 19) none (.ixs 3 (.t 17) (.t 18)),
    .op (some 20) none (.load (some 3) (.t 19)),
    .op (some 21) none (.mv (.t 1)),
    .op (some 22) none (.mv (.t 5)),
    .op (some 23) none (.ixs 3 (.t 21) (.t 22)),
    .op (some 24) none (.load (some 3) (.t 23)),
    .op (some 25) none (.eqa true [.ki, .ki, .ki] (.t 20) (.t 24))]
def c23r6 : List AStm := []
def c23r7 : List AStm := [.op (some 4) none (.mv (.c (.bool false)))]
def c23r8 : List AStm := [.op (some 15) none (.mv (.t 5)),
    .op (some 16) none (.bin .add (.t 15) (.c (.int .i64 1))),
    .op (some 5) none (.mv (.t 16))]
def c23l9 : AC := .seq (.seq (.reg c23r4) (.cond (.t 14) (.skip) (.exit 0))) (.seq (.block 1 (.seq (.dreg c23r5 c23r6) (.cond (.t 25) (.seq (.reg c23r7) (.ret)) (.skip)))) (.reg c23r8))
def c23r10 : List AStm := [.op (some 4) none (.mv (.c (.bool true)))]
def c23 : CF := ⟨.seq (.reg c23r0) (.seq (.seq (.reg c23r1) (.cond (.t 10) (.seq (.reg c23r2) (.ret)) (.skip))) (.seq (.seq (.reg c23r3) (.block 0 (.loop c23l9))) (.seq (.reg c23r10) (.ret)))), [.tmp 4], 26⟩
theorem cf23 : cfun Tryd.prog 23 = some c23 := by kernel_rfl

/-! ### weighbridge/prefix.Within, params 2 -/
def c24r0 : List AStm := [.op (some 2) none (.box (.t 0)),
    .op (some 3) none (.box (.t 1)),
    .op (some 4) none (.mv (.c (.bool false)))]
def c24r1 : List AStm := [.op (some 5) none (.load (some 18) (.t 2)),
    .call (some 6) none (.c (.fn (.func 42) [] [])) [(.t 5)],
    .op (some 7) none (.mv (.t 6)),
    .op (some 8) (some (7, true)) (.faddr 17 (.t 2)),
    .op (some 9) (some (7, true)) (.load none (.t 8)),
    .op (some 10) (some (7, true)) (.faddr 17 (.t 3)),
    .op (some 11) (some (7, true)) (.load none (.t 10)),
    .op (some 12) (some (7, true)) (.bin .geq (.t 9) (.t 11)),
    .op (some 13) none (.pick (.t 7) (.t 12) (.c (.bool false))),
    .op (some 14) none (.mv (.t 13)),
    .op (some 15) (some (14, true)) (.load (some 18) (.t 3)),
    .op (some 16) (some (14, true)) (.faddr 0 (.t 2)),
    .op (some 17) (some (14, true)) (.load none (.t 16)),
    .op (some 18) (some (14, true)) (.faddr 1 (.t 2)),
    .op (some 19) (some (14, true)) (.load (some 16) (.t 18)),
    .call (some 20) (some (14, true)) (.c (.fn (.func 43) [] [])) [(.t 15), (.t 17), (.t 19)],
    .op (some 21) none (.pick (.t 14) (.t 20) (.c (.bool false))),
    .op (some 4) none (.mv (.t 21))]
def c24 : CF := ⟨.seq (.reg c24r0) (.seq (.reg c24r1) (.ret)), [.tmp 4], 22⟩
theorem cf24 : cfun Tryd.prog 24 = some c24 := by kernel_rfl

/-! ### weighbridge/shadow.Covers$1, params 2 -/
def c25r0 : List AStm := [.op (some 4) none (.mv (.c (.bool false)))]
def c25r1 : List AStm := [.op (some 5) none (.mv (.t 0)),
    .op (some 6) none (.bin .eql (.t 5) (.c (.int .i64 (-1)))),
    .op (some 7) none (.mv (.t 6)),
    .op (some 8) (some (7, false)) (.mv (.t 0)),
    .op (some 9) (some (7, false)) (.mv (.t 1)),
    .op (some 10) (some (7, false)) (.bin .eql (.t 8) (.t 9)),
    .op (some 11) none (.pick (.t 7) (.c (.bool true)) (.t 10)),
    .op (some 4) none (.mv (.t 11))]
def c25 : CF := ⟨.seq (.reg c25r0) (.seq (.reg c25r1) (.ret)), [.tmp 4], 12⟩
theorem cf25 : cfun Tryd.prog 25 = some c25 := by kernel_rfl

/-! ### weighbridge/shadow.wider, params 2 -/
def c26r0 : List AStm := [.op (some 2) none (.box (.t 0)),
    .op (some 3) none (.box (.t 1)),
    .op (some 4) none (.mv (.c (.bool false)))]
def c26r1 : List AStm := []
def c26r2 : List AStm := [.op (some 5) none (.load (some 2) (.t 2)),
    .callG (some 6) none (.c (.fn (.func 29) [] [])) [],
    .op (some 7) none (.eqa false [.ki, .ki] (.t 5) (.t 6)),
    .op (some 8) none (.mv (.t 7)),
    .op (some 9) (some (8, false)) (.load (some 2) (.t 3)),
    .callG (some 10) (some (8, false)) (.c (.fn (.func 29) [] [])) [],
    .op (some 11) (some (8, false)) (.eqa true [.ki, .ki] (.t 9) (.t 10)),
    .op (some 12) (some (8, false)) (.mv (.t 11)),
    .op (some 13) (some (12, true)) (.faddr 0 (.t 2)),
    .op (some 14) (some (12, true)) (.load none (.t 13)),
    .op (some 15) (some (12, true)) (.faddr 0 (.t 3)),
    .op (some 16) (some (12, true)) (.load none (.t 15)),
    .op (some 17) (some (12, true)) (.bin .leq (.t 14) (.t 16)),
    .op (some 18) (some (8, false)) (.pick (.t 12) (.t 17) (.c (.bool false))),
    .op (some 19) (some (8, false)) (.mv (.t 18)),
    .op (some 20) (some (19, true)) (.faddr 1 (.t 2)),
    .op (some 21) (some (19, true)) (.load none (.t 20)),
    .op (some 22) (some (19, true)) (.faddr 1 (.t 3)),
    .op (some 23) (some (19, true)) (.load none (.t 22)),
    .op (some 24) (some (19, true)) (.bin .geq (.t 21) (.t 23)),
    .op (some 25) (some (8, false)) (.pick (.t 19) (.t 24) (.c (.bool false))),
    .op (some 26) none (.pick (.t 8) (.c (.bool true)) (.t 25)),
    .op (some 4) none (.mv (.t 26))]
def c26 : CF := ⟨.seq (.reg c26r0) (.seq (.dreg c26r1 c26r2) (.ret)), [.tmp 4], 27⟩
theorem cf26 : cfun Tryd.prog 26 = some c26 := by kernel_rfl

/-! ### weighbridge/span.All, params 0 -/
def c29r0 : List AStm := [.op (some 0) none (.alloc [(.int .i64 0), (.int .i64 0)])]
def c29r1 : List AStm := [.op (some 1) none (.build [(.int .i64 0), (.int .i64 0)] [(1, 1, (.c (.int .i64 65535)))]),
    .op none none (.store 2 (.t 0) (.t 1))]
def c29 : CF := ⟨.seq (.reg c29r0) (.seq (.reg c29r1) (.ret)), [.cell 0 (some 2)], 2⟩
theorem cf29 : cfun Tryd.prog 29 = some c29 := by kernel_rfl

/-! ### weighbridge/ports.Least, params 1 -/
def c30r0 : List AStm := [.op (some 2) none (.mv (.c (.int .i64 0)))]
def c30r1 : List AStm := [.op (some 3) none (.mv (.c (.int .i64 0)))]
def c30r2 : List AStm := [.op (some 4) none (.mv (.t 0))]
def c30r3 : List AStm := [.op (some 6) none (.bin .eql (.t 4) (.c (.int .i64 6))),
    .op (some 5) none (.mv (.t 6))]
def c30r4 : List AStm := [.op (some 8) none (.bin .eql (.t 4) (.c (.int .i64 132))),
    .op (some 7) none (.mv (.t 8))]
def c30r5 : List AStm := [.op (some 10) none (.bin .eql (.t 4) (.c (.int .i64 17))),
    .op (some 9) none (.mv (.t 10))]
def c30r6 : List AStm := [.op (some 11) none (.mv (.t 3)),
    .op (some 12) none (.bin .add (.t 11) (.c (.int .i64 8))),
    .op (some 3) none (.mv (.t 12))]
def c30r7 : List AStm := [.op (some 13) none (.mv (.t 3)),
    .op (some 14) none (.bin .add (.t 13) (.c (.int .i64 4))),
    .op (some 3) none (.mv (.t 14))]
def c30r8 : List AStm := [.op (some 15) none (.mv (.t 3)),
    .op (some 16) none (.bin .add (.t 15) (.c (.int .i64 8))),
    .op (some 3) none (.mv (.t 16))]
def c30r9 : List AStm := [.op (some 17) none (.mv (.t 3)),
    .op (some 2) none (.mv (.t 17))]
def c30 : CF := ⟨.seq (.reg c30r0) (.seq (.reg c30r1) (.seq (.seq (.reg c30r2) (.block 0 (.seq (.block 3 (.seq (.block 2 (.seq (.block 1 (.seq (.seq (.seq (.reg c30r3) (.cond (.t 5) (.exit 1) (.skip))) (.seq (.seq (.reg c30r4) (.cond (.t 7) (.exit 2) (.skip))) (.seq (.reg c30r5) (.cond (.t 9) (.exit 3) (.skip))))) (.exit 0))) (.reg c30r6))) (.reg c30r7))) (.seq (.reg c30r8) (.exit 0))))) (.seq (.reg c30r9) (.ret)))), [.tmp 2], 18⟩
theorem cf30 : cfun Tryd.prog 30 = some c30 := by kernel_rfl

/-! ### slices.ContainsFunc[[]weighbridge/api.Rule,weighbridge/api.Rule], params 2 -/
def c33r0 : List AStm := [.op (some 4) none (.mv (.c (.bool false)))]
def c33r1 : List AStm := [.op (some 5) none (.mv (.t 0)),
    .op (some 6) none (.mv (.t 1)),
    .call (some 7) none (.c (.fn (.func 47) [] [])) [(.t 5), (.t 6)],
    .op (some 8) none (.bin .geq (.t 7) (.c (.int .i64 0))),
    .op (some 4) none (.mv (.t 8))]
def c33 : CF := ⟨.seq (.reg c33r0) (.seq (.reg c33r1) (.ret)), [.tmp 4], 9⟩
theorem cf33 : cfun Tryd.prog 33 = some c33 := by kernel_rfl

/-! ### weighbridge/shadow.right$1, params 1 -/
def c34r0 : List AStm := [.op (some 1) none (.box (.t 0)),
    .op (some 2) none (.mv (.c (.bool false)))]
def c34r1 : List AStm := [.op (some 3) none (.load (some 43) (.t 1)),
    .call (some 4) none (.c (.fn (.func 35) [] [])) [(.t 3)],
    .op (some 5) none (.bin .neq (.t 4) (.c (.int .i64 0))),
    .op (some 2) none (.mv (.t 5))]
def c34 : CF := ⟨.seq (.reg c34r0) (.seq (.reg c34r1) (.ret)), [.tmp 2], 6⟩
theorem cf34 : cfun Tryd.prog 34 = some c34 := by kernel_rfl

/-! ### weighbridge/rule.Check, params 1 -/
def c35r0 : List AStm := [.op (some 1) none (.box (.t 0)),
    .op (some 2) none (.mv (.c (.int .i64 0)))]
def c35r1 : List AStm := [.op (some 9) none (.faddr 0 (.t 1)),
    .op (some 10) none (.load (some 18) (.t 9)),
    .op (some 11) none (.faddr 18 (.t 1)),
    .op (some 12) none (.load (some 18) (.t 11)),
    .op (some 13) none (.build [(.int .i64 0), (.int .u8 0), (.int .u8 0), (.int .u8 0), (.int .u8 0), (.int .u8 0), (.int .u8 0), (.int .u8 0), (.int .u8 0), (.int .u8 0), (.int .u8 0), (.int .u8 0), (.int .u8 0), (.int .u8 0), (.int .u8 0), (.int .u8 0), (.int .u8 0), (.int .i64 0), (.int .i64 0), (.int .u8 0), (.int .u8 0), (.int .u8 0), (.int .u8 0), (.int .u8 0), (.int .u8 0), (.int .u8 0), (.int .u8 0), (.int .u8 0), (.int .u8 0), (.int .u8 0), (.int .u8 0), (.int .u8 0), (.int .u8 0), (.int .u8 0), (.int .u8 0), (.int .i64 0)] [(0, 18, (.t 10)), (18, 18, (.t 12))]),
    .op (some 14) none (.mv (.c (.int .i64 0)))]
def c35r2 : List AStm := [.op (some 15) none (.bin .lss (.t 14) (.c (.int .i64 2)))]
def c35r3 : List AStm := [.op (some 16) none (.ixv 2 18 (some 18) (.t 13) (.t 14)),
    .op (some 4) none (.alloc [(.int .i64 0), (.int .u8 0), (.int .u8 0), (.int .u8 0), (.int .u8 0), (.int .u8 0), (.int .u8 0), (.int .u8 0), (.int .u8 0), (.int .u8 0), (.int .u8 0), (.int .u8 0), (.int .u8 0), (.int .u8 0), (.int .u8 0), (.int .u8 0), (.int .u8 0), (.int .i64 0)]),
    .op none none (.store 18 (.t 4) (.t 16))]
def c35r4 : List AStm := [.op (some 17) none (.load (some 18) (.t 4)),
    .call (some 18) none (.c (.fn (.func 48) [] [])) [(.t 17)],
    .op (some 5) none (.mv (.t 18))]
def c35r5 : List AStm := [.op (some 19) none (.mv (.t 5)),
    .op (some 20) none (.bin .neq (.t 19) (.c (.int .i64 0)))]
def c35r6 : List AStm := [.op (some 21) none (.mv (.t 5)),
    .op (some 2) none (.mv (.t 21))]
def c35r7 : List AStm := [.op (some 22) none (.bin .add (.t 14) (.c (.int .i64 1))),
    .op (some 14) none (.mv (.t 22))]
def c35l8 : AC := .seq (.reg c35r2) (.seq (.cond (.t 15) (.skip) (.exit 0)) (.seq (.block 1 (.seq (.reg c35r3) (.seq (.reg c35r4) (.seq (.reg c35r5) (.cond (.t 20) (.seq (.reg c35r6) (.ret)) (.skip)))))) (.reg c35r7)))
def c35r9 : List AStm := [.op (some 23) none (.faddr 0 (.t 1)),
    .op (some 24) none (.faddr 0 (.t 23)),
    .op (some 25) none (.load none (.t 24)),
    .op (some 26) none (.faddr 18 (.t 1)),
    .op (some 27) none (.faddr 0 (.t 26)),
    .op (some 28) none (.load none (.t 27)),
    .op (some 29) none (.bin .neq (.t 25) (.t 28))]
def c35r10 : List AStm := [.op (some 2) none (.mv (.c (.int .i64 4)))]
def c35r11 : List AStm := [.op (some 30) none (.faddr 36 (.t 1)),
    .op (some 31) none (.load (some 2) (.t 30)),
    .op (some 32) none (.faddr 38 (.t 1)),
    .op (some 33) none (.load (some 2) (.t 32)),
    .op (some 34) none (.build (List.replicate 4 (.int .i64 0)) [(0, 2, (.t 31)), (2, 2, (.t 33))]),
    .op (some 35) none (.mv (.c (.int .i64 0)))]
def c35r12 : List AStm := [.op (some 36) none (.bin .lss (.t 35) (.c (.int .i64 2)))]
def c35r13 : List AStm := [.op (some 37) none (.ixv 2 2 (some 2) (.t 34) (.t 35)),
    .op (some 7) none (.alloc [(.int .i64 0), (.int .i64 0)]),
    .op none none (.store 2 (.t 7) (.t 37))]
def c35r14 : List AStm := [.op (some 38) none (.load (some 2) (.t 7)),
    .call (some 39) none (.c (.fn (.func 49) [] [])) [(.t 38)],
    .op (some 8) none (.mv (.t 39))]
def c35r15 : List AStm := [.op (some 40) none (.mv (.t 8)),
    .op (some 41) none (.bin .neq (.t 40) (.c (.int .i64 0)))]
def c35r16 : List AStm := [.op (some 42) none (.mv (.t 8)),
    .op (some 2) none (.mv (.t 42))]
def c35r17 : List AStm := [.op (some 43) none (.bin .add (.t 35) (.c (.int .i64 1))),
    .op (some 35) none (.mv (.t 43))]
def c35l18 : AC := .seq (.reg c35r12) (.seq (.cond (.t 36) (.skip) (.exit 2)) (.seq (.block 3 (.seq (.reg c35r13) (.seq (.reg c35r14) (.seq (.reg c35r15) (.cond (.t 41) (.seq (.reg c35r16) (.ret)) (.skip)))))) (.reg c35r17)))
def c35r19 : List AStm := [.op (some 45) none (.faddr 40 (.t 1)),
    .op (some 46) none (.load none (.t 45)),
    .op (some 47) none (.bin .lss (.t 46) (.c (.int .i64 (-1)))),
    .op (some 48) none (.mv (.t 47)),
    .op (some 49) (some (48, false)) (.faddr 40 (.t 1)),
    .op (some 50) (some (48, false)) (.load none (.t 49)),
    .op (some 51) (some (48, false)) (.bin .gtr (.t 50) (.c (.int .i64 255))),
    .op (some 52) none (.pick (.t 48) (.c (.bool true)) (.t 51)),
    .op (some 44) none (.mv (.t 52))]
def c35r20 : List AStm := [.op (some 2) none (.mv (.c (.int .i64 1)))]
def c35r21 : List AStm := [.op (some 54) none (.faddr 41 (.t 1)),
    .op (some 55) none (.load none (.t 54)),
    .op (some 56) none (.bin .lss (.t 55) (.c (.int .i64 (-1)))),
    .op (some 57) none (.mv (.t 56)),
    .op (some 58) (some (57, false)) (.faddr 41 (.t 1)),
    .op (some 59) (some (57, false)) (.load none (.t 58)),
    .op (some 60) (some (57, false)) (.bin .gtr (.t 59) (.c (.int .i64 63))),
    .op (some 61) none (.pick (.t 57) (.c (.bool true)) (.t 60)),
    .op (some 53) none (.mv (.t 61))]
def c35r22 : List AStm := [.op (some 2) none (.mv (.c (.int .i64 14)))]
def c35r23 : List AStm := [.op (some 63) none (.faddr 42 (.t 1)),
    .op (some 64) none (.load none (.t 63)),
    .call (some 65) none (.c (.fn (.func 50) [] [])) [(.t 64)],
    .op (some 66) none (.un .not (.t 65)),
    .op (some 62) none (.mv (.t 66))]
def c35r24 : List AStm := [.op (some 2) none (.mv (.c (.int .i64 11)))]
def c35r25 : List AStm := [.op (some 2) none (.mv (.c (.int .i64 0)))]
def c35 : CF := ⟨.seq (.reg c35r0) (.seq (.seq (.reg c35r1) (.block 0 (.loop c35l8))) (.seq (.seq (.reg c35r9) (.cond (.t 29) (.seq (.reg c35r10) (.ret)) (.skip))) (.seq (.seq (.reg c35r11) (.block 2 (.loop c35l18))) (.seq (.block 4 (.seq (.reg c35r19) (.cond (.t 44) (.seq (.reg c35r20) (.ret)) (.seq (.reg c35r21) (.cond (.t 53) (.seq (.reg c35r22) (.ret)) (.seq (.reg c35r23) (.cond (.t 62) (.seq (.reg c35r24) (.ret)) (.skip)))))))) (.seq (.reg c35r25) (.ret)))))), [.tmp 2], 67⟩
theorem cf35 : cfun Tryd.prog 35 = some c35 := by kernel_rfl

/-! ### weighbridge/prefix.Meet, params 2 -/
def c36r0 : List AStm := [.op (some 2) none (.box (.t 0)),
    .op (some 3) none (.box (.t 1)),
    .op (some 4) none (.mv (.c (.bool false)))]
def c36r1 : List AStm := [.op (some 5) none (.load (some 18) (.t 2)),
    .op (some 6) none (.load (some 18) (.t 3)),
    .call (some 7) none (.c (.fn (.func 24) [] [])) [(.t 5), (.t 6)],
    .op (some 8) none (.mv (.t 7)),
    .op (some 9) (some (8, false)) (.load (some 18) (.t 3)),
    .op (some 10) (some (8, false)) (.load (some 18) (.t 2)),
    .call (some 11) (some (8, false)) (.c (.fn (.func 24) [] [])) [(.t 9), (.t 10)],
    .op (some 12) none (.pick (.t 8) (.c (.bool true)) (.t 11)),
    .op (some 4) none (.mv (.t 12))]
def c36 : CF := ⟨.seq (.reg c36r0) (.seq (.reg c36r1) (.ret)), [.tmp 4], 13⟩
theorem cf36 : cfun Tryd.prog 36 = some c36 := by kernel_rfl

/-! ### weighbridge/span.Meet, params 2 -/
def c37r0 : List AStm := [.op (some 2) none (.box (.t 0)),
    .op (some 3) none (.box (.t 1)),
    .op (some 4) none (.alloc [(.int .i64 0), (.int .i64 0)]),
    .op (some 5) none (.mv (.c (.bool false)))]
def c37r1 : List AStm := [.op (some 7) none (.load (some 2) (.t 2)),
    .call (some 8) none (.c (.fn (.func 49) [] [])) [(.t 7)],
    .op (some 9) none (.bin .neq (.t 8) (.c (.int .i64 0))),
    .op (some 10) none (.mv (.t 9)),
    .op (some 11) (some (10, false)) (.load (some 2) (.t 3)),
    .call (some 12) (some (10, false)) (.c (.fn (.func 49) [] [])) [(.t 11)],
    .op (some 13) (some (10, false)) (.bin .neq (.t 12) (.c (.int .i64 0))),
    .op (some 14) none (.pick (.t 10) (.c (.bool true)) (.t 13))]
def c37r2 : List AStm := [.op (some 15) none (.build [(.int .i64 0), (.int .i64 0)] []),
    .op none none (.store 2 (.t 4) (.t 15)),
    .op (some 5) none (.mv (.c (.bool false)))]
def c37r3 : List AStm := [.op (some 16) none (.faddr 0 (.t 2)),
    .op (some 17) none (.load none (.t 16)),
    .op (some 18) none (.faddr 0 (.t 3)),
    .op (some 19) none (.load none (.t 18)),
    .op (some 20) none (.mnx true (.t 17) (.t 19)),
    .op (some 21) none (.faddr 1 (.t 2)),
    .op (some 22) none (.load none (.t 21)),
    .op (some 23) none (.faddr 1 (.t 3)),
    .op (some 24) none (.load none (.t 23)),
    .op (some 25) none (.mnx false (.t 22) (.t 24)),
    .op (some 26) none (.build [(.int .i64 0), (.int .i64 0)] [(0, 1, (.t 20)), (1, 1, (.t 25))]),
    .op (some 6) none (.alloc [(.int .i64 0), (.int .i64 0)]),
    .op none none (.store 2 (.t 6) (.t 26))]
def c37r4 : List AStm := [.op (some 27) none (.faddr 0 (.t 6)),
    .op (some 28) none (.load none (.t 27)),
    .op (some 29) none (.faddr 1 (.t 6)),
    .op (some 30) none (.load none (.t 29)),
    .op (some 31) none (.bin .gtr (.t 28) (.t 30))]
def c37r5 : List AStm := [.op (some 32) none (.build [(.int .i64 0), (.int .i64 0)] []),
    .op none none (.store 2 (.t 4) (.t 32)),
    .op (some 5) none (.mv (.c (.bool false)))]
def c37r6 : List AStm := [.op (some 33) none (.load (some 2) (.t 6)),
    .op none none (.store 2 (.t 4) (.t 33)),
    .op (some 5) none (.mv (.c (.bool true)))]
def c37 : CF := ⟨.seq (.reg c37r0) (.seq (.seq (.reg c37r1) (.cond (.t 14) (.seq (.reg c37r2) (.ret)) (.skip))) (.seq (.reg c37r3) (.seq (.seq (.reg c37r4) (.cond (.t 31) (.seq (.reg c37r5) (.ret)) (.skip))) (.seq (.reg c37r6) (.ret))))), [.cell 4 (some 2), .tmp 5], 34⟩
theorem cf37 : cfun Tryd.prog 37 = some c37 := by kernel_rfl

/-! ### weighbridge/prefix.All, params 1 -/
def c39r0 : List AStm := [.op (some 2) none (.alloc [(.int .i64 0), (.int .u8 0), (.int .u8 0), (.int .u8 0), (.int .u8 0), (.int .u8 0), (.int .u8 0), (.int .u8 0), (.int .u8 0), (.int .u8 0), (.int .u8 0), (.int .u8 0), (.int .u8 0), (.int .u8 0), (.int .u8 0), (.int .u8 0), (.int .u8 0), (.int .i64 0)])]
def c39r1 : List AStm := [.op (some 3) none (.mv (.t 0)),
    .op (some 4) none (.build [(.int .i64 0), (.int .u8 0), (.int .u8 0), (.int .u8 0), (.int .u8 0), (.int .u8 0), (.int .u8 0), (.int .u8 0), (.int .u8 0), (.int .u8 0), (.int .u8 0), (.int .u8 0), (.int .u8 0), (.int .u8 0), (.int .u8 0), (.int .u8 0), (.int .u8 0), (.int .i64 0)] [(0, 1, (.t 3))]),
    .op none none (.store 18 (.t 2) (.t 4))]
def c39 : CF := ⟨.seq (.reg c39r0) (.seq (.reg c39r1) (.ret)), [.cell 2 (some 18)], 5⟩
theorem cf39 : cfun Tryd.prog 39 = some c39 := by kernel_rfl

/-! ### weighbridge/sieve.New, params 1 -/
def c40r0 : List AStm := [.op (some 2) none (.mv (.c .nilp)),
    .op (some 3) none (.alloc [(.int .i64 0), (.int .i64 0)])]
def c40r1 : List AStm := [.op (some 7) none (.mv (.t 0)),
    .op (some 8) none (.len false (.t 7)),
    .op (some 9) none (.bin .gtr (.t 8) (.c (.int .i64 256)))]
def c40r2 : List AStm := [.op (some 10) none (.build [(.int .i64 0), (.int .i64 0)] [(0, 1, (.c (.int .i64 7))), (1, 1, (.c (.int .i64 256)))]),
    .op (some 2) none (.mv (.c .nilp)),
    .op none none (.store 2 (.t 3) (.t 10))]
def c40r3 : List AStm := [.op (some 11) none (.mv (.t 0)),
    .op (some 12) none (.len false (.t 11)),
    .op (some 13) none (.mv (.c (.int .i64 0)))]
def c40r4 : List AStm := [.op (some 14) none (.bin .lss (.t 13) (.t 12))]
def c40r5 : List AStm := [.op (some 15) none (.mv (.t 13)),
    .op (some 16) none (.ixs 43 (.t 11) (.t 13)),
    .op (some 17) none (.load (some 43) (.t 16)),
    .op (some 5) none (.alloc [(.int .i64 0), (.int .u8 0), (.int .u8 0), (.int .u8 0), (.int .u8 0), (.int .u8 0), (.int .u8 0), (.int .u8 0), (.int .u8 0), (.int .u8 0), (.int .u8 0), (.int .u8 0), (.int .u8 0), (.int .u8 0), (.int .u8 0), (.int .u8 0), (.int .u8 0), (.int .i64 0), (.int .i64 0), (.int .u8 0), (.int .u8 0), (.int .u8 0), (.int .u8 0), (.int .u8 0), (.int .u8 0), (.int .u8 0), (.int .u8 0), (.int .u8 0), (.int .u8 0), (.int .u8 0), (.int .u8 0), (.int .u8 0), (.int .u8 0), (.int .u8 0), (.int .u8 0), (.int .i64 0), (.int .i64 0), (.int .i64 0), (.int .i64 0), (.int .i64 0), (.int .i64 0), (.int .i64 0), (.int .i64 0)]),
    .op (some 4) none (.mv (.t 15)),
    .op none none (.store 43 (.t 5) (.t 17))]
def c40r6 : List AStm := [.op (some 18) none (.load (some 43) (.t 5)),
    .call (some 19) none (.c (.fn (.func 35) [] [])) [(.t 18)],
    .op (some 6) none (.mv (.t 19))]
def c40r7 : List AStm := [.op (some 20) none (.mv (.t 6)),
    .op (some 21) none (.bin .neq (.t 20) (.c (.int .i64 0)))]
def c40r8 : List AStm := [.op (some 22) none (.mv (.t 6)),
    .op (some 23) none (.mv (.t 4)),
    .op (some 24) none (.build [(.int .i64 0), (.int .i64 0)] [(0, 1, (.t 22)), (1, 1, (.t 23))]),
    .op (some 2) none (.mv (.c .nilp)),
    .op none none (.store 2 (.t 3) (.t 24))]
def c40r9 : List AStm := [.op (some 25) none (.bin .add (.t 13) (.c (.int .i64 1))),
    .op (some 13) none (.mv (.t 25))]
def c40l10 : AC := .seq (.reg c40r4) (.seq (.cond (.t 14) (.skip) (.exit 0)) (.seq (.block 1 (.seq (.reg c40r5) (.seq (.reg c40r6) (.seq (.reg c40r7) (.cond (.t 21) (.seq (.reg c40r8) (.ret)) (.skip)))))) (.reg c40r9)))
def c40r11 : List AStm := [.op (some 26) none (.mv (.t 0)),
    .call (some 27) none (.c (.fn (.func 51) [] [])) [(.t 26)],
    .op (some 28) none (.build [.nils, (.int .u32 0), (.int .i32 0), (.int .u32 0), .nilp] [(0, 1, (.t 27))]),
    .op (some 29) none (.box (.t 28)),
    .op (some 30) none (.build [(.int .i64 0), (.int .i64 0)] []),
    .op (some 2) none (.mv (.t 29)),
    .op none none (.store 2 (.t 3) (.t 30))]
def c40 : CF := ⟨.seq (.reg c40r0) (.seq (.seq (.reg c40r1) (.cond (.t 9) (.seq (.reg c40r2) (.ret)) (.skip))) (.seq (.seq (.reg c40r3) (.block 0 (.loop c40l10))) (.seq (.reg c40r11) (.ret)))), [.tmp 2, .cell 3 (some 2)], 31⟩
theorem cf40 : cfun Tryd.prog 40 = some c40 := by kernel_rfl

/-! ### weighbridge/shadow.fates, params 1 -/
def c41r0 : List AStm := [.op (some 2) none (.mv (.c .nils))]
def c41r1 : List AStm := [.op (some 8) none (.mv (.t 0)),
    .op (some 9) none (.len false (.t 8)),
    .op (some 10) none (.mks 2 16 [(.int .i64 0), (.int .i64 0)] (.t 9) (.t 9)),
    .op (some 3) none (.mv (.t 10))]
def c41r2 : List AStm := [.op (some 11) none (.mv (.t 0)),
    .op (some 12) none (.len false (.t 11)),
    .op (some 13) none (.mv (.c (.int .i64 0)))]
def c41r3 : List AStm := [.op (some 14) none (.bin .lss (.t 13) (.t 12))]
def c41r4 : List AStm := [.op (some 15) none (.mv (.t 13)),
    .op (some 16) none (.ixs 43 (.t 11) (.t 13)),
    .op (some 17) none (.load (some 43) (.t 16)),
    .op (some 5) none (.alloc [(.int .i64 0), (.int .u8 0), (.int .u8 0), (.int .u8 0), (.int .u8 0), (.int .u8 0), (.int .u8 0), (.int .u8 0), (.int .u8 0), (.int .u8 0), (.int .u8 0), (.int .u8 0), (.int .u8 0), (.int .u8 0), (.int .u8 0), (.int .u8 0), (.int .u8 0), (.int .i64 0), (.int .i64 0), (.int .u8 0), (.int .u8 0), (.int .u8 0), (.int .u8 0), (.int .u8 0), (.int .u8 0), (.int .u8 0), (.int .u8 0), (.int .u8 0), (.int .u8 0), (.int .u8 0), (.int .u8 0), (.int .u8 0), (.int .u8 0), (.int .u8 0), (.int .u8 0), (.int .i64 0), (.int .i64 0), (.int .i64 0), (.int .i64 0), (.int .i64 0), (.int .i64 0), (.int .i64 0), (.int .i64 0)]),
    .op (some 4) none (.mv (.t 15)),
    .op none none (.store 43 (.t 5) (.t 17))]
def c41r5 : List AStm := [.op (some 18) none (.load (some 43) (.t 5)),
    .call (some 19) none (.c (.fn (.func 10) [] [])) [(.t 18)]]
def c41r6 : List AStm := [.op (some 20) none (.mv (.t 3)),
    .op (some 21) none (.mv (.t 4)),
    .op (some 22) none (.mv (.t 4)),
    .op (some 23) none (.build [(.int .i64 0), (.int .i64 0)] [(0, 1, (.c (.int .i64 1))), (1, 1, (.t 22))]),
    .op (some 24) none (.ixs 2 (.t 20) (.t 21)),
    .op none none (.store 2 (.t 24) (.t 23))]
def c41r7 : List AStm := [.op (some 25) none (.mv (.t 0)),
    .op (some 26) none (.mv (.t 4)),
    .op (some 27) none (.slc 43 (.t 25) none (some (.t 26))),
    .op (some 28) none (.len false (.t 27)),
    .op (some 29) none (.mv (.c (.int .i64 0)))]
def c41r8 : List AStm := [.op (some 30) none (.bin .lss (.t 29) (.t 28))]
def c41r9 : List AStm := [.op (some 31) none (.mv (.t 29)),
    .op (some 32) none (.ixs 43 (.t 27) (.t 29)),
    .op (some 33) none (.load (some 43) (.t 32)),
    .op (some 7) none (.alloc [(.int .i64 0), (.int .u8 0), (.int .u8 0), (.int .u8 0), (.int .u8 0), (.int .u8 0), (.int .u8 0), (.int .u8 0), (.int .u8 0), (.int .u8 0), (.int .u8 0), (.int .u8 0), (.int .u8 0), (.int .u8 0), (.int .u8 0), (.int .u8 0), (.int .u8 0), (.int .i64 0), (.int .i64 0), (.int .u8 0), (.int .u8 0), (.int .u8 0), (.int .u8 0), (.int .u8 0), (.int .u8 0), (.int .u8 0), (.int .u8 0), (.int .u8 0), (.int .u8 0), (.int .u8 0), (.int .u8 0), (.int .u8 0), (.int .u8 0), (.int .u8 0), (.int .u8 0), (.int .i64 0), (.int .i64 0), (.int .i64 0), (.int .i64 0), (.int .i64 0), (.int .i64 0), (.int .i64 0), (.int .i64 0)]),
    .op (some 6) none (.mv (.t 31)),
    .op none none (.store 43 (.t 7) (.t 33))]
def c41r10 : List AStm := [.op (some 34) none (.load (some 43) (.t 7)),
    .op (some 35) none (.load (some 43) (.t 5)),
    .call (some 36) none (.c (.fn (.func 7) [] [])) [(.t 34), (.t 35)]]
def c41r11 : List AStm := [.op (some 37) none (.mv (.t 3)),
    .op (some 38) none (.mv (.t 4)),
    .op (some 39) none (.mv (.t 6)),
    .op (some 40) none (.build [(.int .i64 0), (.int .i64 0)] [(0, 1, (.c (.int .i64 2))), (1, 1, (.t 39))]),
    .op (some 41) none (.ixs 2 (.t 37) (.t 38)),
    .op none none (.store 2 (.t 41) (.t 40))]
def c41r12 : List AStm := [.op (some 42) none (.bin .add (.t 29) (.c (.int .i64 1))),
    .op (some 29) none (.mv (.t 42))]
def c41l13 : AC := .seq (.reg c41r8) (.seq (.cond (.t 30) (.skip) (.exit 2)) (.seq (.block 3 (.seq (.reg c41r9) (.seq (.reg c41r10) (.cond (.t 36) (.seq (.reg c41r11) (.exit 1)) (.skip))))) (.reg c41r12)))
def c41r14 : List AStm := [.op (some 43) none (.bin .add (.t 13) (.c (.int .i64 1))),
    .op (some 13) none (.mv (.t 43))]
def c41l15 : AC := .seq (.reg c41r3) (.seq (.cond (.t 14) (.skip) (.exit 0)) (.seq (.block 1 (.seq (.reg c41r4) (.seq (.seq (.reg c41r5) (.cond (.t 19) (.seq (.reg c41r6) (.exit 1)) (.skip))) (.seq (.reg c41r7) (.block 2 (.loop c41l13)))))) (.reg c41r14)))
def c41r16 : List AStm := [.op (some 44) none (.mv (.t 3)),
    .op (some 2) none (.mv (.t 44))]
def c41 : CF := ⟨.seq (.reg c41r0) (.scope (.seq (.reg c41r1) (.seq (.skip) (.seq (.seq (.reg c41r2) (.block 0 (.loop c41l15))) (.seq (.reg c41r16) (.ret)))))), [.tmp 2], 45⟩
theorem cf41 : cfun Tryd.prog 41 = some c41 := by kernel_rfl

/-! ### weighbridge/prefix.right, params 1 -/
def c42r0 : List AStm := [.op (some 1) none (.box (.t 0)),
    .op (some 2) none (.mv (.c (.bool false)))]
def c42r1 : List AStm := [.op (some 3) none (.load (some 18) (.t 1)),
    .call (some 4) none (.c (.fn (.func 48) [] [])) [(.t 3)],
    .op (some 5) none (.bin .eql (.t 4) (.c (.int .i64 0))),
    .op (some 2) none (.mv (.t 5))]
def c42 : CF := ⟨.seq (.reg c42r0) (.seq (.reg c42r1) (.ret)), [.tmp 2], 6⟩
theorem cf42 : cfun Tryd.prog 42 = some c42 := by kernel_rfl

/-! ### weighbridge/prefix.Has, params 3 -/
def c43r0 : List AStm := [.op (some 3) none (.box (.t 0)),
    .op (some 5) none (.box (.t 2)),
    .op (some 6) none (.mv (.c (.bool false)))]
def c43r1 : List AStm := []
def c43r2 : List AStm := [.op (some 7) none (.load (some 18) (.t 3)),
    .callG (some 8) none (.c (.fn (.func 42) [] [])) [(.t 7)],
    .op (some 9) none (.mv (.t 8)),
    .op (some 10) (some (9, true)) (.mv (.t 1)),
    .op (some 11) (some (9, true)) (.faddr 0 (.t 3)),
    .op (some 12) (some (9, true)) (.load none (.t 11)),
    .op (some 13) (some (9, true)) (.bin .eql (.t 10) (.t 12)),
    .op (some 14) none (.pick (.t 9) (.t 13) (.c (.bool false))),
    .op (some 15) none (.mv (.t 14)),
    .op (some 16) (some (15, true)) (.load (some 16) (.t 5)),
    .op (some 17) (some (15, true)) (.faddr 17 (.t 3)),
    .op (some 18) (some (15, true)) (.load none (.t 17)),
    .op (some 20) (some (15, true)) (.faddr 1 (.t 3)),
    .op (some 21) (some (15, true)) (.load (some 16) (.t 20)),
    .callG (some 19) (some (15, true)) (.c (.fn (.func 52) [] [])) [(.t 16), (.t 18)],
    .op (some 22) (some (15, true)) (.eqa false (List.replicate 16 .ki) (.t 19) (.t 21)),
    .op (some 23) none (.pick (.t 15) (.t 22) (.c (.bool false))),
    .op (some 6) none (.mv (.t 23))]
def c43 : CF := ⟨.seq (.reg c43r0) (.seq (.dreg c43r1 c43r2) (.ret)), [.tmp 6], 24⟩
theorem cf43 : cfun Tryd.prog 43 = some c43 := by kernel_rfl

/-! ### slices.IndexFunc[[]weighbridge/api.Rule,weighbridge/api.Rule], params 2 -/
def c47r0 : List AStm := [.op (some 4) none (.mv (.c (.int .i64 0)))]
def c47r1 : List AStm := [.op (some 6) none (.mv (.t 0)),
    .op (some 7) none (.len false (.t 6)),
    .op (some 8) none (.mv (.c (.int .i64 0)))]
def c47r2 : List AStm := [.op (some 9) none (.bin .lss (.t 8) (.t 7))]
def c47r3 : List AStm := [.op (some 10) none (.mv (.t 8)),
    .op (some 5) none (.mv (.t 10))]
def c47r4 : List AStm := [.op (some 11) none (.mv (.t 1)),
    .op (some 12) none (.mv (.t 0)),
    .op (some 13) none (.mv (.t 5)),
    .op (some 14) none (.ixs 43 (.t 12) (.t 13)),
    .op (some 15) none (.load (some 43) (.t 14)),
    .call (some 16) none (.t 11) [(.t 15)]]
def c47r5 : List AStm := [.op (some 17) none (.mv (.t 5)),
    .op (some 4) none (.mv (.t 17))]
def c47r6 : List AStm := [.op (some 18) none (.bin .add (.t 8) (.c (.int .i64 1))),
    .op (some 8) none (.mv (.t 18))]
def c47l7 : AC := .seq (.reg c47r2) (.seq (.cond (.t 9) (.skip) (.exit 0)) (.seq (.block 1 (.seq (.reg c47r3) (.seq (.reg c47r4) (.cond (.t 16) (.seq (.reg c47r5) (.ret)) (.skip))))) (.reg c47r6)))
def c47r8 : List AStm := [.op (some 4) none (.mv (.c (.int .i64 (-1))))]
def c47 : CF := ⟨.seq (.reg c47r0) (.seq (.seq (.reg c47r1) (.block 0 (.loop c47l7))) (.seq (.reg c47r8) (.ret))), [.tmp 4], 19⟩
theorem cf47 : cfun Tryd.prog 47 = some c47 := by kernel_rfl

/-! ### weighbridge/prefix.Check, params 1 -/
def c48r0 : List AStm := [.op (some 1) none (.box (.t 0)),
    .op (some 2) none (.mv (.c (.int .i64 0)))]
def c48r1 : List AStm := [.op (some 4) none (.faddr 0 (.t 1)),
    .op (some 5) none (.load none (.t 4)),
    .op (some 6) none (.faddr 17 (.t 1)),
    .op (some 7) none (.load none (.t 6)),
    .call (some 8) none (.c (.fn (.func 55) [] [])) [(.t 5), (.t 7)],
    .op (some 3) none (.mv (.t 8))]
def c48r2 : List AStm := [.op (some 9) none (.mv (.t 3)),
    .op (some 10) none (.bin .neq (.t 9) (.c (.int .i64 0)))]
def c48r3 : List AStm := [.op (some 11) none (.mv (.t 3)),
    .op (some 2) none (.mv (.t 11))]
def c48r4 : List AStm := []
def c48r5 : List AStm := [.op (some 12) none (.faddr 1 (.t 1)),
    .op (some 13) none (.load (some 16) (.t 12)),
    .op (some 14) none (.faddr 17 (.t 1)),
    .op (some 15) none (.load none (.t 14)),
    .op (some 17) none (.faddr 1 (.t 1)),
    .op (some 18) none (.load (some 16) (.t 17)),
    .callG (some 16) none (.c (.fn (.func 52) [] [])) [(.t 13), (.t 15)],
    .op (some 19) none (.eqa true (List.replicate 16 .ki) (.t 16) (.t 18))]
def c48r6 : List AStm := [.op (some 2) none (.mv (.c (.int .i64 5)))]
def c48r7 : List AStm := [.op (some 2) none (.mv (.c (.int .i64 0)))]
def c48 : CF := ⟨.seq (.reg c48r0) (.seq (.seq (.reg c48r1) (.seq (.reg c48r2) (.cond (.t 10) (.seq (.reg c48r3) (.ret)) (.skip)))) (.seq (.seq (.dreg c48r4 c48r5) (.cond (.t 19) (.seq (.reg c48r6) (.ret)) (.skip))) (.seq (.reg c48r7) (.ret)))), [.tmp 2], 20⟩
theorem cf48 : cfun Tryd.prog 48 = some c48 := by kernel_rfl

/-! ### weighbridge/span.Check, params 1 -/
def c49r0 : List AStm := [.op (some 1) none (.box (.t 0)),
    .op (some 2) none (.mv (.c (.int .i64 0)))]
def c49r1 : List AStm := [.op (some 4) none (.faddr 0 (.t 1)),
    .op (some 5) none (.load none (.t 4)),
    .call (some 6) none (.c (.fn (.func 56) [] [])) [(.t 5)],
    .op (some 7) none (.un .not (.t 6)),
    .op (some 8) none (.mv (.t 7)),
    .op (some 9) (some (8, false)) (.faddr 1 (.t 1)),
    .op (some 10) (some (8, false)) (.load none (.t 9)),
    .call (some 11) (some (8, false)) (.c (.fn (.func 56) [] [])) [(.t 10)],
    .op (some 12) (some (8, false)) (.un .not (.t 11)),
    .op (some 13) none (.pick (.t 8) (.c (.bool true)) (.t 12)),
    .op (some 3) none (.mv (.t 13))]
def c49r2 : List AStm := [.op (some 2) none (.mv (.c (.int .i64 1)))]
def c49r3 : List AStm := [.op (some 15) none (.faddr 0 (.t 1)),
    .op (some 16) none (.load none (.t 15)),
    .op (some 17) none (.faddr 1 (.t 1)),
    .op (some 18) none (.load none (.t 17)),
    .op (some 19) none (.bin .gtr (.t 16) (.t 18)),
    .op (some 14) none (.mv (.t 19))]
def c49r4 : List AStm := [.op (some 2) none (.mv (.c (.int .i64 6)))]
def c49r5 : List AStm := [.op (some 2) none (.mv (.c (.int .i64 0)))]
def c49 : CF := ⟨.seq (.reg c49r0) (.seq (.block 0 (.seq (.reg c49r1) (.cond (.t 3) (.seq (.reg c49r2) (.ret)) (.seq (.reg c49r3) (.cond (.t 14) (.seq (.reg c49r4) (.ret)) (.skip)))))) (.seq (.reg c49r5) (.ret))), [.tmp 2], 20⟩
theorem cf49 : cfun Tryd.prog 49 = some c49 := by kernel_rfl

/-! ### weighbridge/rule.isClass, params 1 -/
def c50r0 : List AStm := [.op (some 2) none (.mv (.c (.bool false)))]
def c50r1 : List AStm := [.op (some 3) none (.mv (.t 0)),
    .op (some 4) none (.bin .geq (.t 3) (.c (.int .i64 0))),
    .op (some 5) none (.mv (.t 4)),
    .op (some 6) (some (5, true)) (.mv (.t 0)),
    .op (some 7) (some (5, true)) (.bin .lss (.t 6) (.c (.int .i64 16))),
    .op (some 8) none (.pick (.t 5) (.t 7) (.c (.bool false))),
    .op (some 2) none (.mv (.t 8))]
def c50 : CF := ⟨.seq (.reg c50r0) (.seq (.reg c50r1) (.ret)), [.tmp 2], 9⟩
theorem cf50 : cfun Tryd.prog 50 = some c50 := by kernel_rfl

/-! ### slices.Clone[[]weighbridge/api.Rule,weighbridge/api.Rule], params 1 -/
def c51r0 : List AStm := [.op (some 2) none (.mv (.c .nils))]
def c51r1 : List AStm := [.op (some 3) none (.mv (.t 0)),
    .op (some 4) none (.isnil false 2 (.t 3))]
def c51r2 : List AStm := [.op (some 2) none (.mv (.c .nils))]
def c51r3 : List AStm := [.op (some 5) none (.bslice 43 [] 0 []),
    .op (some 6) none (.mv (.t 0)),
    .op (some 7) none (.append false 43 120 (.t 5) (.t 6)),
    .op (some 2) none (.mv (.t 7))]
def c51 : CF := ⟨.seq (.reg c51r0) (.seq (.seq (.reg c51r1) (.cond (.t 4) (.seq (.reg c51r2) (.ret)) (.skip))) (.seq (.reg c51r3) (.ret))), [.tmp 2], 8⟩
theorem cf51 : cfun Tryd.prog 51 = some c51 := by kernel_rfl

/-! ### weighbridge/prefix.mask, params 2 -/
def c52r0 : List AStm := [.op (some 2) none (.box (.t 0)),
    .op (some 4) none (.alloc (List.replicate 16 (.int .u8 0)))]
def c52r1 : List AStm := [.op (some 7) none (.mv (.c (.int .i64 0)))]
def c52r2 : List AStm := [.op (some 8) none (.bin .lss (.t 7) (.c (.int .i64 16)))]
def c52r3 : List AStm := [.op (some 9) none (.mv (.t 7)),
    .op (some 5) none (.mv (.t 9))]
def c52r4 : List AStm := [.op (some 10) none (.mv (.t 1)),
    .op (some 11) none (.mv (.t 5)),
    .op (some 12) none (.bin .mul (.c (.int .i64 8)) (.t 11)),
    .op (some 13) none (.bin .sub (.t 10) (.t 12)),
    .op (some 6) none (.mv (.t 13))]
def c52r5 : List AStm := [.op (some 15) none (.mv (.t 6)),
    .op (some 16) none (.bin .leq (.t 15) (.c (.int .i64 0))),
    .op (some 14) none (.mv (.t 16))]
def c52r6 : List AStm := [.op (some 17) none (.mv (.t 5)),
    .op (some 18) none (.ixa 16 1 (.t 2) (.t 17)),
    .op none none (.store 1 (.t 18) (.c (.int .u8 0)))]
def c52r7 : List AStm := [.op (some 20) none (.mv (.t 6)),
    .op (some 21) none (.bin .lss (.t 20) (.c (.int .i64 8))),
    .op (some 19) none (.mv (.t 21))]
def c52r8 : List AStm := [.op (some 22) none (.mv (.t 5)),
    .op (some 23) none (.ixa 16 1 (.t 2) (.t 22)),
    .op (some 24) none (.load none (.t 23)),
    .op (some 25) none (.mv (.t 6)),
    .op (some 26) none (.bin .sub (.c (.int .i64 8)) (.t 25)),
    .op (some 27) none (.conv .u64 (.t 26)),
    .op (some 28) none (.bin .shl (.c (.int .u8 255)) (.t 27)),
    .op (some 29) none (.bin .and (.t 24) (.t 28)),
    .op (some 30) none (.ixa 16 1 (.t 2) (.t 22)),
    .op none none (.store 1 (.t 30) (.t 29))]
def c52r9 : List AStm := [.op (some 31) none (.bin .add (.t 7) (.c (.int .i64 1))),
    .op (some 7) none (.mv (.t 31))]
def c52l10 : AC := .seq (.reg c52r2) (.seq (.cond (.t 8) (.skip) (.exit 0)) (.seq (.block 1 (.seq (.reg c52r3) (.seq (.reg c52r4) (.block 2 (.seq (.reg c52r5) (.cond (.t 14) (.reg c52r6) (.seq (.reg c52r7) (.cond (.t 19) (.reg c52r8) (.skip))))))))) (.reg c52r9)))
def c52r11 : List AStm := [.op (some 32) none (.load (some 16) (.t 2)),
    .op none none (.store 16 (.t 4) (.t 32))]
def c52 : CF := ⟨.seq (.reg c52r0) (.seq (.seq (.reg c52r1) (.block 0 (.loop c52l10))) (.seq (.reg c52r11) (.ret))), [.cell 4 (some 16)], 33⟩
theorem cf52 : cfun Tryd.prog 52 = some c52 := by kernel_rfl

/-! ### weighbridge/prefix.fits, params 2 -/
def c55r0 : List AStm := [.op (some 4) none (.mv (.c (.int .i64 0)))]
def c55r1 : List AStm := [.op (some 8) none (.mv (.t 0)),
    .call (some 9) none (.c (.fn (.func 59) [] [])) [(.t 8)],
    .op (some 7) none (.mv (.t 9)),
    .op (some 10) none (.ext (.t 7) 0),
    .op (some 11) none (.ext (.t 7) 1),
    .op (some 5) none (.mv (.t 10)),
    .op (some 6) none (.mv (.t 11))]
def c55r2 : List AStm := [.op (some 13) none (.mv (.t 6)),
    .op (some 14) none (.un .not (.t 13)),
    .op (some 12) none (.mv (.t 14))]
def c55r3 : List AStm := [.op (some 4) none (.mv (.c (.int .i64 4)))]
def c55r4 : List AStm := [.op (some 16) none (.mv (.t 1)),
    .op (some 17) none (.bin .lss (.t 16) (.c (.int .i64 0))),
    .op (some 18) none (.mv (.t 17)),
    .op (some 19) (some (18, false)) (.mv (.t 1)),
    .op (some 20) (some (18, false)) (.mv (.t 5)),
    .op (some 21) (some (18, false)) (.bin .gtr (.t 19) (.t 20)),
    .op (some 22) none (.pick (.t 18) (.c (.bool true)) (.t 21)),
    .op (some 15) none (.mv (.t 22))]
def c55r5 : List AStm := [.op (some 4) none (.mv (.c (.int .i64 1)))]
def c55r6 : List AStm := [.op (some 4) none (.mv (.c (.int .i64 0)))]
def c55 : CF := ⟨.seq (.reg c55r0) (.seq (.reg c55r1) (.seq (.block 0 (.seq (.reg c55r2) (.cond (.t 12) (.seq (.reg c55r3) (.ret)) (.seq (.reg c55r4) (.cond (.t 15) (.seq (.reg c55r5) (.ret)) (.skip)))))) (.seq (.reg c55r6) (.ret)))), [.tmp 4], 23⟩
theorem cf55 : cfun Tryd.prog 55 = some c55 := by kernel_rfl

/-! ### weighbridge/span.is, params 1 -/
def c56r0 : List AStm := [.op (some 2) none (.mv (.c (.bool false)))]
def c56r1 : List AStm := [.op (some 3) none (.mv (.t 0)),
    .op (some 4) none (.bin .geq (.t 3) (.c (.int .i64 0))),
    .op (some 5) none (.mv (.t 4)),
    .op (some 6) (some (5, true)) (.mv (.t 0)),
    .op (some 7) (some (5, true)) (.bin .leq (.t 6) (.c (.int .i64 65535))),
    .op (some 8) none (.pick (.t 5) (.t 7) (.c (.bool false))),
    .op (some 2) none (.mv (.t 8))]
def c56 : CF := ⟨.seq (.reg c56r0) (.seq (.reg c56r1) (.ret)), [.tmp 2], 9⟩
theorem cf56 : cfun Tryd.prog 56 = some c56 := by kernel_rfl

/-! ### weighbridge/prefix.most, params 1 -/
def c59r0 : List AStm := [.op (some 2) none (.mv (.c (.int .i64 0))),
    .op (some 3) none (.mv (.c (.bool false)))]
def c59r1 : List AStm := [.op (some 4) none (.mv (.t 0))]
def c59r2 : List AStm := [.op (some 6) none (.bin .eql (.t 4) (.c (.int .i64 4))),
    .op (some 5) none (.mv (.t 6))]
def c59r3 : List AStm := [.op (some 2) none (.mv (.c (.int .i64 32))),
    .op (some 3) none (.mv (.c (.bool true)))]
def c59r4 : List AStm := [.op (some 8) none (.bin .eql (.t 4) (.c (.int .i64 6))),
    .op (some 7) none (.mv (.t 8))]
def c59r5 : List AStm := [.op (some 2) none (.mv (.c (.int .i64 128))),
    .op (some 3) none (.mv (.c (.bool true)))]
def c59r6 : List AStm := [.op (some 2) none (.mv (.c (.int .i64 0))),
    .op (some 3) none (.mv (.c (.bool false)))]
def c59 : CF := ⟨.seq (.reg c59r0) (.seq (.seq (.reg c59r1) (.block 0 (.seq (.reg c59r2) (.cond (.t 5) (.seq (.reg c59r3) (.ret)) (.seq (.reg c59r4) (.cond (.t 7) (.seq (.reg c59r5) (.ret)) (.skip))))))) (.seq (.reg c59r6) (.ret))), [.tmp 2, .tmp 3], 9⟩
theorem cf59 : cfun Tryd.prog 59 = some c59 := by kernel_rfl


def intAt (l : List D) (i : Nat) : Int := match l[i]? with
  | some (.int _ n) => n
  | _ => 0
def bytesAt (l : List D) (i : Nat) : List UInt8 := ((l.drop i).take 16).map fun d => match d with
  | .int _ n => UInt8.ofNat n.toNat
  | _ => 0
def ruDec (l : List D) : Ru := ⟨intAt l 0, bytesAt l 1, intAt l 17, intAt l 18, bytesAt l 19, intAt l 35, intAt l 36, intAt l 37, intAt l 38, intAt l 39, intAt l 40, intAt l 41, intAt l 42⟩
def ruIs (l : List D) : Bool := beqL l (ru (ruDec l)) && (Nat.beq (ruDec l).sa.length 16 && Nat.beq (ruDec l).da.length 16)
theorem ruIs_ok {l : List D} (h : ruIs l = true) : l = ru (ruDec l) ∧ (ruDec l).Ok := by
  simp only [ruIs, Bool.and_eq_true] at h
  exact ⟨beqL_eq h.1, ⟨Nat.eq_of_beq_eq_true h.2.1, Nat.eq_of_beq_eq_true h.2.2⟩⟩
def rCheck : List D → Option D
  | [.agg l] => bif ruIs l then some (.int .i64 (ruChk (ruDec l))) else none
  | _ => none
def rWit : List D → Option D
  | [.agg l, .agg m] => bif ruIs l && ruIs m then some (.tup [.agg (ky (witK (ruDec l) (ruDec m))), .bool (witB (ruDec l) (ruDec m))]) else none
  | _ => none
def rCov : List D → Option D
  | [.agg l, .agg m] => bif ruIs l && ruIs m then some (.bool (coversF (ruDec l) (ruDec m))) else none
  | _ => none
theorem rCheck_ok (args : List D) (h : Heap) (d : D) (hr : rCheck args = some d) : FC Tryd.prog 35 args h fun d' h' => d' = d ∧ h' = h := by
  unfold rCheck at hr
  split at hr
  · rename_i l
    cases hb : ruIs l with
    | false => rw [hb] at hr; cases hr
    | true =>
      rw [hb] at hr
      simp only [cond_true, Option.some.injEq] at hr
      subst hr
      obtain ⟨e, ok⟩ := ruIs_ok hb
      have := rcheckP_fc h (ruDec l) ok
      rwa [← e] at this
  · cases hr
theorem two_ok {l m : List D} {x d : D} (hr : (bif ruIs l && ruIs m then some x else none) = some d) : d = x ∧ l = ru (ruDec l) ∧ (ruDec l).Ok ∧ m = ru (ruDec m) ∧ (ruDec m).Ok := by
  cases hb : (ruIs l && ruIs m) with
  | false => rw [hb] at hr; cases hr
  | true =>
    rw [hb] at hr
    simp only [cond_true, Option.some.injEq] at hr
    simp only [Bool.and_eq_true] at hb
    exact ⟨hr.symm, (ruIs_ok hb.1).1, (ruIs_ok hb.1).2, (ruIs_ok hb.2).1, (ruIs_ok hb.2).2⟩
theorem rWit_ok (args : List D) (h : Heap) (d : D) (hr : rWit args = some d) : FC Tryd.prog 4 args h fun d' h' => d' = d ∧ h' = h := by
  unfold rWit at hr
  split at hr
  · rename_i l m
    obtain ⟨rfl, e1, o1, e2, o2⟩ := two_ok hr
    have := witness_fc h (ruDec l) (ruDec m) o1 o2
    rwa [← e1, ← e2] at this
  · cases hr
theorem rCov_ok (args : List D) (h : Heap) (d : D) (hr : rCov args = some d) : FC Tryd.prog 7 args h fun d' h' => d' = d ∧ h' = h := by
  unfold rCov at hr
  split at hr
  · rename_i l m
    obtain ⟨rfl, e1, o1, e2, o2⟩ := two_ok hr
    have := covers_fc h (ruDec l) (ruDec m) o1 o2
    rwa [← e1, ← e2] at this
  · cases hr
def orc23 : YtodlpcoffmnmbaaDoor.Callee := orcOf 35 rCheck (orcOf 4 rWit (orcOf 7 rCov noOrc))
theorem orc23_ok : CallOk Tryd.prog orc23 := orcOf_ok rCheck_ok (orcOf_ok rWit_ok (orcOf_ok rCov_ok noOrc_ok))
def live23_tab : List (FuncId × CF) := [(4, c4), (6, c6), (7, c7), (9, c9), (10, c10), (12, c12), (13, c13), (14, c14), (15, c15), (20, c20), (21, c21), (22, c22), (23, c23), (24, c24), (25, c25), (26, c26), (29, c29), (30, c30), (33, c33), (34, c34), (35, c35), (36, c36), (37, c37), (39, c39), (40, c40), (41, c41), (42, c42), (43, c43), (47, c47), (48, c48), (49, c49), (50, c50), (51, c51), (52, c52), (55, c55), (56, c56), (59, c59)]
theorem live23_ok : ∀ p ∈ live23_tab, cfun Tryd.prog p.1 = some p.2 := by
  intro p hp
  simp only [live23_tab, List.mem_cons, List.not_mem_nil, or_false] at hp
  rcases hp with rfl | rfl | rfl | rfl | rfl | rfl | rfl | rfl | rfl | rfl | rfl | rfl | rfl | rfl | rfl | rfl | rfl | rfl | rfl | rfl | rfl | rfl | rfl | rfl | rfl | rfl | rfl | rfl | rfl | rfl | rfl | rfl | rfl | rfl | rfl | rfl | rfl
  · exact cf4
  · exact cf6
  · exact cf7
  · exact cf9
  · exact cf10
  · exact cf12
  · exact cf13
  · exact cf14
  · exact cf15
  · exact cf20
  · exact cf21
  · exact cf22
  · exact cf23
  · exact cf24
  · exact cf25
  · exact cf26
  · exact cf29
  · exact cf30
  · exact cf33
  · exact cf34
  · exact cf35
  · exact cf36
  · exact cf37
  · exact cf39
  · exact cf40
  · exact cf41
  · exact cf42
  · exact cf43
  · exact cf47
  · exact cf48
  · exact cf49
  · exact cf50
  · exact cf51
  · exact cf52
  · exact cf55
  · exact cf56
  · exact cf59
theorem live23_run : saysTrue (callee orc23 (tabOf live23_tab) 300 6 [] []) = true := by kernel_rfl
theorem live23 (h : Heap) : FC Tryd.prog 6 [] h fun d h' => d = .bool true ∧ h' = h := live_of' hmix orc23_ok live23_ok live23_run rfl h

end Go.Proofs.L23
