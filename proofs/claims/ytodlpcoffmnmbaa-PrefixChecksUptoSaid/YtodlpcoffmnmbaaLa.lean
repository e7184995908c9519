/-
  Own work. What must be whatever is asked: live of layer 7, by a closed run.
-/
import Derived.Test.YtodlpcoffmnmbaaWe
namespace Go.Proofs.L07
open Go Go.Ytodlpcoffmnmbaa
set_option linter.unusedVariables false
set_option linter.unusedSimpArgs false
set_option maxRecDepth 10000

/-! ### weighbridge/prefix.Make, params 3 -/
def c17r0 : List AStm := [.op (some 4) none (.box (.t 1)),
    .op (some 6) none (.alloc [(.int .i64 0), (.int .u8 0), (.int .u8 0), (.int .u8 0), (.int .u8 0), (.int .u8 0), (.int .u8 0), (.int .u8 0), (.int .u8 0), (.int .u8 0), (.int .u8 0), (.int .u8 0), (.int .u8 0), (.int .u8 0), (.int .u8 0), (.int .u8 0), (.int .u8 0), (.int .i64 0)]),
    .op (some 7) none (.mv (.c (.int .i64 0)))]
def c17r1 : List AStm := [.op (some 9) none (.mv (.t 0)),
    .op (some 10) none (.mv (.t 2)),
    .call (some 11) none (.c (.fn (.func 56) [] [])) [(.t 9), (.t 10)],
    .op (some 8) none (.mv (.t 11))]
def c17r2 : List AStm := [.op (some 12) none (.mv (.t 8)),
    .op (some 13) none (.bin .neq (.t 12) (.c (.int .i64 0)))]
def c17r3 : List AStm := [.op (some 14) none (.build [(.int .i64 0), (.int .u8 0), (.int .u8 0), (.int .u8 0), (.int .u8 0), (.int .u8 0), (.int .u8 0), (.int .u8 0), (.int .u8 0), (.int .u8 0), (.int .u8 0), (.int .u8 0), (.int .u8 0), (.int .u8 0), (.int .u8 0), (.int .u8 0), (.int .u8 0), (.int .i64 0)] []),
    .op (some 15) none (.mv (.t 8)),
    .op none none (.store 18 (.t 6) (.t 14)),
    .op (some 7) none (.mv (.t 15))]
def c17r4 : List AStm := [.op (some 16) none (.mv (.t 0)),
    .op (some 17) none (.load (some 16) (.t 4)),
    .op (some 18) none (.mv (.t 2)),
    .call (some 19) none (.c (.fn (.func 57) [] [])) [(.t 17), (.t 18)],
    .op (some 20) none (.mv (.t 2)),
    .op (some 21) none (.build [(.int .i64 0), (.int .u8 0), (.int .u8 0), (.int .u8 0), (.int .u8 0), (.int .u8 0), (.int .u8 0), (.int .u8 0), (.int .u8 0), (.int .u8 0), (.int .u8 0), (.int .u8 0), (.int .u8 0), (.int .u8 0), (.int .u8 0), (.int .u8 0), (.int .u8 0), (.int .i64 0)] [(0, 1, (.t 16)), (1, 16, (.t 19)), (17, 1, (.t 20))]),
    .op none none (.store 18 (.t 6) (.t 21)),
    .op (some 7) none (.mv (.c (.int .i64 0)))]
def c17 : CF := ⟨.seq (.reg c17r0) (.seq (.seq (.reg c17r1) (.seq (.reg c17r2) (.cond (.t 13) (.seq (.reg c17r3) (.ret)) (.skip)))) (.seq (.reg c17r4) (.ret))), [.cell 6 (some 18), .tmp 7], 22⟩
theorem cf17 : cfun Try.prog 17 = some c17 := by kernel_rfl

/-! ### weighbridge/prefix.Halves, params 1 -/
def c19r0 : List AStm := [.op (some 1) none (.box (.t 0)),
    .op (some 2) none (.alloc [(.int .i64 0), (.int .u8 0), (.int .u8 0), (.int .u8 0), (.int .u8 0), (.int .u8 0), (.int .u8 0), (.int .u8 0), (.int .u8 0), (.int .u8 0), (.int .u8 0), (.int .u8 0), (.int .u8 0), (.int .u8 0), (.int .u8 0), (.int .u8 0), (.int .u8 0), (.int .i64 0)]),
    .op (some 3) none (.alloc [(.int .i64 0), (.int .u8 0), (.int .u8 0), (.int .u8 0), (.int .u8 0), (.int .u8 0), (.int .u8 0), (.int .u8 0), (.int .u8 0), (.int .u8 0), (.int .u8 0), (.int .u8 0), (.int .u8 0), (.int .u8 0), (.int .u8 0), (.int .u8 0), (.int .u8 0), (.int .i64 0)]),
    .op (some 4) none (.mv (.c (.bool false)))]
def c19r1 : List AStm := [.op (some 12) none (.faddr 0 (.t 1)),
    .op (some 13) none (.load none (.t 12)),
    .call (some 14) none (.c (.fn (.func 60) [] [])) [(.t 13)],
    .op (some 11) none (.mv (.t 14)),
    .op (some 15) none (.ext (.t 11) 0),
    .op (some 16) none (.ext (.t 11) 1),
    .op (some 5) none (.mv (.t 15)),
    .op (some 6) none (.mv (.t 16))]
def c19r2 : List AStm := [.op (some 17) none (.load (some 18) (.t 1)),
    .call (some 18) none (.c (.fn (.func 61) [] [])) [(.t 17)],
    .op (some 19) none (.un .not (.t 18)),
    .op (some 20) none (.mv (.t 19)),
    .op (some 21) (some (20, false)) (.faddr 17 (.t 1)),
    .op (some 22) (some (20, false)) (.load none (.t 21)),
    .op (some 23) (some (20, false)) (.mv (.t 5)),
    .op (some 24) (some (20, false)) (.bin .eql (.t 22) (.t 23)),
    .op (some 25) none (.pick (.t 20) (.c (.bool true)) (.t 24))]
def c19r3 : List AStm := [.op (some 26) none (.build [(.int .i64 0), (.int .u8 0), (.int .u8 0), (.int .u8 0), (.int .u8 0), (.int .u8 0), (.int .u8 0), (.int .u8 0), (.int .u8 0), (.int .u8 0), (.int .u8 0), (.int .u8 0), (.int .u8 0), (.int .u8 0), (.int .u8 0), (.int .u8 0), (.int .u8 0), (.int .i64 0)] []),
    .op (some 27) none (.build [(.int .i64 0), (.int .u8 0), (.int .u8 0), (.int .u8 0), (.int .u8 0), (.int .u8 0), (.int .u8 0), (.int .u8 0), (.int .u8 0), (.int .u8 0), (.int .u8 0), (.int .u8 0), (.int .u8 0), (.int .u8 0), (.int .u8 0), (.int .u8 0), (.int .u8 0), (.int .i64 0)] []),
    .op none none (.store 18 (.t 2) (.t 26)),
    .op none none (.store 18 (.t 3) (.t 27)),
    .op (some 4) none (.mv (.c (.bool false)))]
def c19r4 : List AStm := [.op (some 28) none (.load (some 18) (.t 1)),
    .op (some 29) none (.load (some 18) (.t 1)),
    .op (some 7) none (.alloc [(.int .i64 0), (.int .u8 0), (.int .u8 0), (.int .u8 0), (.int .u8 0), (.int .u8 0), (.int .u8 0), (.int .u8 0), (.int .u8 0), (.int .u8 0), (.int .u8 0), (.int .u8 0), (.int .u8 0), (.int .u8 0), (.int .u8 0), (.int .u8 0), (.int .u8 0), (.int .i64 0)]),
    .op (some 8) none (.alloc [(.int .i64 0), (.int .u8 0), (.int .u8 0), (.int .u8 0), (.int .u8 0), (.int .u8 0), (.int .u8 0), (.int .u8 0), (.int .u8 0), (.int .u8 0), (.int .u8 0), (.int .u8 0), (.int .u8 0), (.int .u8 0), (.int .u8 0), (.int .u8 0), (.int .u8 0), (.int .i64 0)]),
    .op none none (.store 18 (.t 7) (.t 28)),
    .chk 29 none (.load (some 18) (.t 1)),
    .op none none (.store 18 (.t 8) (.t 29))]
def c19r5 : List AStm := []
def c19r6 : List AStm := [.op (some 30) none (.faddr 17 (.t 1)),
    .op (some 31) none (.load none (.t 30)),
    .op (some 32) none (.bin .quo (.t 31) (.c (.int .i64 8))),
    .op (some 33) none (.faddr 1 (.t 8)),
    .op (some 34) none (.ixa 16 1 (.t 33) (.t 32)),
    .op (some 35) none (.load none (.t 34)),
    .op (some 36) none (.faddr 17 (.t 1)),
    .op (some 37) none (.load none (.t 36)),
    .op (some 38) none (.bin .rem (.t 37) (.c (.int .i64 8))),
    .op (some 39) none (.conv .u64 (.t 38)),
    .op (some 40) none (.bin .shr (.c (.int .u8 128)) (.t 39)),
    .op (some 41) none (.bin .or (.t 35) (.t 40)),
    .op (some 42) none (.faddr 1 (.t 8)),
    .op (some 43) none (.ixa 16 1 (.t 42) (.t 32)),
    .op none none (.store 1 (.t 43) (.t 41))]
def c19r7 : List AStm := []
def c19r8 : List AStm := [.op (some 44) none (.build [.nilp, .nilp] [(0, 1, (.t 7)), (1, 1, (.t 8))]),
    .op (some 45) none (.mv (.c (.int .i64 0)))]
def c19r9 : List AStm := [.op (some 46) none (.bin .lss (.t 45) (.c (.int .i64 2)))]
def c19r10 : List AStm := [.op (some 47) none (.ixv 2 1 none (.t 44) (.t 45)),
    .op (some 10) none (.mv (.t 47))]
def c19r11 : List AStm := [.op (some 48) none (.mv (.t 10)),
    .op (some 49) none (.nilchk (.t 48)),
    .op (some 50) none (.faddr 17 (.t 49)),
    .op (some 51) none (.load none (.t 50)),
    .op (some 52) none (.bin .add (.t 51) (.c (.int .i64 1))),
    .op (some 53) none (.nilchk (.t 48)),
    .op (some 54) none (.faddr 17 (.t 53)),
    .op none none (.store 1 (.t 54) (.t 52))]
def c19r12 : List AStm := [.op (some 55) none (.bin .add (.t 45) (.c (.int .i64 1))),
    .op (some 45) none (.mv (.t 55))]
def c19l13 : AC := .seq (.reg c19r9) (.seq (.cond (.t 46) (.skip) (.exit 0)) (.seq (.block 1 (.seq (.reg c19r10) (.reg c19r11))) (.reg c19r12)))
def c19r14 : List AStm := [.op (some 56) none (.load (some 18) (.t 7)),
    .op (some 57) none (.load (some 18) (.t 8)),
    .op none none (.store 18 (.t 2) (.t 56)),
    .chk 57 none (.load (some 18) (.t 8)),
    .op none none (.store 18 (.t 3) (.t 57)),
    .op (some 4) none (.mv (.c (.bool true)))]
def c19r15 : List AStm := []
def c19 : CF := ⟨.seq (.reg c19r0) (.seq (.reg c19r1) (.seq (.seq (.reg c19r2) (.cond (.t 25) (.seq (.reg c19r3) (.ret)) (.skip))) (.seq (.dreg c19r4 c19r5) (.seq (.dreg c19r6 c19r7) (.seq (.seq (.reg c19r8) (.block 0 (.loop c19l13))) (.seq (.dreg c19r14 c19r15) (.ret))))))), [.cell 2 (some 18), .cell 3 (some 18), .tmp 4], 58⟩
theorem cf19 : cfun Try.prog 19 = some c19 := by kernel_rfl

/-! ### weighbridge/weighbridgelaw07.live, params 0 -/
def c21r0 : List AStm := [.op (some 0) none (.mv (.c (.bool false)))]
def c21r1 : List AStm := [.call (some 15) none (.c (.fn (.func 31) [] [])) [(.c (.str (bs [49, 48, 46, 51, 50, 46, 48, 46, 48, 47, 49, 49])))],
    .op (some 14) none (.mv (.t 15)),
    .op (some 16) none (.ext (.t 14) 0),
    .op (some 17) none (.ext (.t 14) 1),
    .op (some 1) none (.alloc [(.int .i64 0), (.int .u8 0), (.int .u8 0), (.int .u8 0), (.int .u8 0), (.int .u8 0), (.int .u8 0), (.int .u8 0), (.int .u8 0), (.int .u8 0), (.int .u8 0), (.int .u8 0), (.int .u8 0), (.int .u8 0), (.int .u8 0), (.int .u8 0), (.int .u8 0), (.int .i64 0)]),
    .op none none (.store 18 (.t 1) (.t 16)),
    .op (some 2) none (.mv (.t 17))]
def c21r2 : List AStm := [.call (some 19) none (.c (.fn (.func 31) [] [])) [(.c (.str (bs [49, 48, 46, 51, 50, 46, 48, 46, 49, 47, 49, 49])))],
    .op (some 18) none (.mv (.t 19)),
    .op (some 20) none (.ext (.t 18) 0),
    .op (some 21) none (.ext (.t 18) 1),
    .op (some 3) none (.alloc [(.int .i64 0), (.int .u8 0), (.int .u8 0), (.int .u8 0), (.int .u8 0), (.int .u8 0), (.int .u8 0), (.int .u8 0), (.int .u8 0), (.int .u8 0), (.int .u8 0), (.int .u8 0), (.int .u8 0), (.int .u8 0), (.int .u8 0), (.int .u8 0), (.int .u8 0), (.int .i64 0)]),
    .op none none (.store 18 (.t 3) (.t 20)),
    .op (some 4) none (.mv (.t 21))]
def c21r3 : List AStm := [.call (some 23) none (.c (.fn (.func 31) [] [])) [(.c (.str (bs [49, 48, 46, 48, 46, 48, 46, 48, 47, 51, 51])))],
    .op (some 22) none (.mv (.t 23)),
    .op (some 24) none (.ext (.t 22) 0),
    .op (some 25) none (.ext (.t 22) 1),
    .op (some 5) none (.alloc [(.int .i64 0), (.int .u8 0), (.int .u8 0), (.int .u8 0), (.int .u8 0), (.int .u8 0), (.int .u8 0), (.int .u8 0), (.int .u8 0), (.int .u8 0), (.int .u8 0), (.int .u8 0), (.int .u8 0), (.int .u8 0), (.int .u8 0), (.int .u8 0), (.int .u8 0), (.int .i64 0)]),
    .op none none (.store 18 (.t 5) (.t 24)),
    .op (some 6) none (.mv (.t 25))]
def c21r4 : List AStm := [.call (some 27) none (.c (.fn (.func 31) [] [])) [(.c (.str (bs [49, 48, 46, 48, 46, 48, 46, 48])))],
    .op (some 26) none (.mv (.t 27)),
    .op (some 28) none (.ext (.t 26) 0),
    .op (some 29) none (.ext (.t 26) 1),
    .op (some 7) none (.alloc [(.int .i64 0), (.int .u8 0), (.int .u8 0), (.int .u8 0), (.int .u8 0), (.int .u8 0), (.int .u8 0), (.int .u8 0), (.int .u8 0), (.int .u8 0), (.int .u8 0), (.int .u8 0), (.int .u8 0), (.int .u8 0), (.int .u8 0), (.int .u8 0), (.int .u8 0), (.int .i64 0)]),
    .op none none (.store 18 (.t 7) (.t 28)),
    .op (some 8) none (.mv (.t 29))]
def c21r5 : List AStm := [.op (some 31) none (.build (List.replicate 16 (.int .u8 0)) [(0, 1, (.c (.int .u8 32))), (1, 1, (.c (.int .u8 1))), (2, 1, (.c (.int .u8 255))), (3, 1, (.c (.int .u8 255)))]),
    .call (some 32) none (.c (.fn (.func 17) [] [])) [(.c (.int .i64 6)), (.t 31), (.c (.int .i64 20))],
    .op (some 30) none (.mv (.t 32)),
    .op (some 33) none (.ext (.t 30) 0),
    .op (some 34) none (.ext (.t 30) 1),
    .op (some 9) none (.alloc [(.int .i64 0), (.int .u8 0), (.int .u8 0), (.int .u8 0), (.int .u8 0), (.int .u8 0), (.int .u8 0), (.int .u8 0), (.int .u8 0), (.int .u8 0), (.int .u8 0), (.int .u8 0), (.int .u8 0), (.int .u8 0), (.int .u8 0), (.int .u8 0), (.int .u8 0), (.int .i64 0)]),
    .op none none (.store 18 (.t 9) (.t 33)),
    .op (some 10) none (.mv (.t 34))]
def c21r6 : List AStm := [.op (some 36) none (.load (some 18) (.t 1)),
    .call (some 37) none (.c (.fn (.func 19) [] [])) [(.t 36)],
    .op (some 35) none (.mv (.t 37)),
    .op (some 38) none (.ext (.t 35) 0),
    .op (some 39) none (.ext (.t 35) 1),
    .op (some 40) none (.ext (.t 35) 2),
    .op (some 11) none (.alloc [(.int .i64 0), (.int .u8 0), (.int .u8 0), (.int .u8 0), (.int .u8 0), (.int .u8 0), (.int .u8 0), (.int .u8 0), (.int .u8 0), (.int .u8 0), (.int .u8 0), (.int .u8 0), (.int .u8 0), (.int .u8 0), (.int .u8 0), (.int .u8 0), (.int .u8 0), (.int .i64 0)]),
    .op (some 12) none (.alloc [(.int .i64 0), (.int .u8 0), (.int .u8 0), (.int .u8 0), (.int .u8 0), (.int .u8 0), (.int .u8 0), (.int .u8 0), (.int .u8 0), (.int .u8 0), (.int .u8 0), (.int .u8 0), (.int .u8 0), (.int .u8 0), (.int .u8 0), (.int .u8 0), (.int .u8 0), (.int .i64 0)]),
    .op none none (.store 18 (.t 11) (.t 38)),
    .op none none (.store 18 (.t 12) (.t 39)),
    .op (some 13) none (.mv (.t 40))]
def c21r7 : List AStm := [.op (some 41) none (.mv (.t 2)),
    .op (some 42) none (.bin .eql (.t 41) (.c (.int .i64 0))),
    .op (some 43) none (.mv (.t 42)),
    .op (some 44) (some (43, true)) (.load (some 18) (.t 1)),
    .op (some 45) (some (43, true)) (.build (List.replicate 16 (.int .u8 0)) [(0, 1, (.c (.int .u8 10))), (1, 1, (.c (.int .u8 32)))]),
    .op (some 46) (some (43, true)) (.build [(.int .i64 0), (.int .u8 0), (.int .u8 0), (.int .u8 0), (.int .u8 0), (.int .u8 0), (.int .u8 0), (.int .u8 0), (.int .u8 0), (.int .u8 0), (.int .u8 0), (.int .u8 0), (.int .u8 0), (.int .u8 0), (.int .u8 0), (.int .u8 0), (.int .u8 0), (.int .i64 0)] [(0, 1, (.c (.int .i64 4))), (1, 16, (.t 45)), (17, 1, (.c (.int .i64 11)))]),
    .op (some 47) (some (43, true)) (.eqa false (List.replicate 18 .ki) (.t 44) (.t 46)),
    .op (some 48) none (.pick (.t 43) (.t 47) (.c (.bool false))),
    .op (some 49) none (.mv (.t 48)),
    .op (some 50) (some (49, true)) (.mv (.t 4)),
    .op (some 51) (some (49, true)) (.bin .eql (.t 50) (.c (.int .i64 5))),
    .op (some 52) none (.pick (.t 49) (.t 51) (.c (.bool false))),
    .op (some 53) none (.mv (.t 52)),
    .op (some 54) (some (53, true)) (.mv (.t 6)),
    .op (some 55) (some (53, true)) (.bin .eql (.t 54) (.c (.int .i64 1))),
    .op (some 56) none (.pick (.t 53) (.t 55) (.c (.bool false))),
    .op (some 57) none (.mv (.t 56)),
    .op (some 58) (some (57, true)) (.mv (.t 8)),
    .op (some 59) (some (57, true)) (.bin .eql (.t 58) (.c (.int .i64 3))),
    .op (some 60) none (.pick (.t 57) (.t 59) (.c (.bool false))),
    .op (some 61) none (.mv (.t 60)),
    .op (some 62) (some (61, true)) (.mv (.t 10)),
    .op (some 63) (some (61, true)) (.bin .eql (.t 62) (.c (.int .i64 0))),
    .op (some 64) none (.pick (.t 61) (.t 63) (.c (.bool false))),
    .op (some 65) none (.mv (.t 64)),
    .op (some 66) (some (65, true)) (.load (some 18) (.t 9)),
    .call (some 67) (some (65, true)) (.c (.fn (.func 32) [] [])) [(.t 66)],
    .op (some 68) (some (65, true)) (.bin .eql (.t 67) (.c (.str (bs [50, 48, 48, 49, 58, 102, 48, 48, 48, 58, 58, 47, 50, 48])))),
    .op (some 69) none (.pick (.t 65) (.t 68) (.c (.bool false))),
    .op (some 70) none (.mv (.t 69)),
    .op (some 71) (some (70, true)) (.mv (.t 13)),
    .op (some 72) none (.pick (.t 70) (.t 71) (.c (.bool false))),
    .op (some 73) none (.mv (.t 72)),
    .op (some 74) (some (73, true)) (.load (some 18) (.t 11)),
    .call (some 75) (some (73, true)) (.c (.fn (.func 32) [] [])) [(.t 74)],
    .op (some 76) (some (73, true)) (.bin .eql (.t 75) (.c (.str (bs [49, 48, 46, 51, 50, 46, 48, 46, 48, 47, 49, 50])))),
    .op (some 77) none (.pick (.t 73) (.t 76) (.c (.bool false))),
    .op (some 78) none (.mv (.t 77)),
    .op (some 79) (some (78, true)) (.load (some 18) (.t 12)),
    .call (some 80) (some (78, true)) (.c (.fn (.func 32) [] [])) [(.t 79)],
    .op (some 81) (some (78, true)) (.bin .eql (.t 80) (.c (.str (bs [49, 48, 46, 52, 56, 46, 48, 46, 48, 47, 49, 50])))),
    .op (some 82) none (.pick (.t 78) (.t 81) (.c (.bool false))),
    .op (some 83) none (.mv (.t 82)),
    .op (some 84) (some (83, true)) (.load (some 18) (.t 1)),
    .op (some 85) (some (83, true)) (.build (List.replicate 16 (.int .u8 0)) [(0, 1, (.c (.int .u8 10))), (1, 1, (.c (.int .u8 63))), (2, 1, (.c (.int .u8 1)))]),
    .call (some 86) (some (83, true)) (.c (.fn (.func 27) [] [])) [(.t 84), (.c (.int .i64 4)), (.t 85)],
    .op (some 87) none (.pick (.t 83) (.t 86) (.c (.bool false))),
    .op (some 88) none (.mv (.t 87)),
    .op (some 89) (some (88, true)) (.load (some 18) (.t 1)),
    .op (some 90) (some (88, true)) (.build (List.replicate 16 (.int .u8 0)) [(0, 1, (.c (.int .u8 10))), (1, 1, (.c (.int .u8 64)))]),
    .call (some 91) (some (88, true)) (.c (.fn (.func 27) [] [])) [(.t 89), (.c (.int .i64 4)), (.t 90)],
    .op (some 92) (some (88, true)) (.un .not (.t 91)),
    .op (some 93) none (.pick (.t 88) (.t 92) (.c (.bool false))),
    .op (some 94) none (.mv (.t 93)),
    .op (some 95) (some (94, true)) (.load (some 18) (.t 1)),
    .op (some 96) (some (94, true)) (.build (List.replicate 16 (.int .u8 0)) [(0, 1, (.c (.int .u8 10))), (1, 1, (.c (.int .u8 63)))]),
    .call (some 97) (some (94, true)) (.c (.fn (.func 27) [] [])) [(.t 95), (.c (.int .i64 6)), (.t 96)],
    .op (some 98) (some (94, true)) (.un .not (.t 97)),
    .op (some 99) none (.pick (.t 94) (.t 98) (.c (.bool false))),
    .op (some 100) none (.mv (.t 99)),
    .op (some 101) (some (100, true)) (.load (some 18) (.t 12)),
    .op (some 102) (some (100, true)) (.load (some 18) (.t 1)),
    .call (some 103) (some (100, true)) (.c (.fn (.func 29) [] [])) [(.t 101), (.t 102)],
    .op (some 104) none (.pick (.t 100) (.t 103) (.c (.bool false))),
    .op (some 105) none (.mv (.t 104)),
    .op (some 106) (some (105, true)) (.load (some 18) (.t 1)),
    .op (some 107) (some (105, true)) (.load (some 18) (.t 12)),
    .call (some 108) (some (105, true)) (.c (.fn (.func 29) [] [])) [(.t 106), (.t 107)],
    .op (some 109) (some (105, true)) (.un .not (.t 108)),
    .op (some 110) none (.pick (.t 105) (.t 109) (.c (.bool false))),
    .op (some 111) none (.mv (.t 110)),
    .op (some 112) (some (111, true)) (.load (some 18) (.t 1)),
    .op (some 113) (some (111, true)) (.load (some 18) (.t 12)),
    .call (some 114) (some (111, true)) (.c (.fn (.func 30) [] [])) [(.t 112), (.t 113)],
    .op (some 115) none (.pick (.t 111) (.t 114) (.c (.bool false))),
    .op (some 116) none (.mv (.t 115)),
    .op (some 117) (some (116, true)) (.load (some 18) (.t 11)),
    .op (some 118) (some (116, true)) (.load (some 18) (.t 12)),
    .call (some 119) (some (116, true)) (.c (.fn (.func 30) [] [])) [(.t 117), (.t 118)],
    .op (some 120) (some (116, true)) (.un .not (.t 119)),
    .op (some 121) none (.pick (.t 116) (.t 120) (.c (.bool false))),
    .op (some 122) none (.mv (.t 121)),
    .op (some 123) (some (122, true)) (.build [(.int .i64 0), (.int .u8 0), (.int .u8 0), (.int .u8 0), (.int .u8 0), (.int .u8 0), (.int .u8 0), (.int .u8 0), (.int .u8 0), (.int .u8 0), (.int .u8 0), (.int .u8 0), (.int .u8 0), (.int .u8 0), (.int .u8 0), (.int .u8 0), (.int .u8 0), (.int .i64 0)] []),
    .call (some 124) (some (122, true)) (.c (.fn (.func 22) [] [])) [(.t 123)],
    .op (some 125) (some (122, true)) (.bin .eql (.t 124) (.c (.int .i64 4))),
    .op (some 126) none (.pick (.t 122) (.t 125) (.c (.bool false))),
    .op (some 127) none (.mv (.t 126)),
    .op (some 128) (some (127, true)) (.load (some 18) (.t 1)),
    .call (some 129) (some (127, true)) (.c (.fn (.func 24) [] [])) [(.t 128)],
    .op (some 130) (some (127, true)) (.build (List.replicate 16 (.int .u8 0)) [(0, 1, (.c (.int .u8 10))), (1, 1, (.c (.int .u8 63))), (2, 1, (.c (.int .u8 255))), (3, 1, (.c (.int .u8 255)))]),
    .op (some 131) (some (127, true)) (.eqa false (List.replicate 16 .ki) (.t 129) (.t 130)),
    .op (some 132) none (.pick (.t 127) (.t 131) (.c (.bool false))),
    .op (some 133) none (.mv (.t 132)),
    .call (some 134) (some (133, true)) (.c (.fn (.func 33) [] [])) [(.c (.int .i64 4))],
    .op (some 135) (some (133, true)) (.build [(.int .i64 0), (.int .u8 0), (.int .u8 0), (.int .u8 0), (.int .u8 0), (.int .u8 0), (.int .u8 0), (.int .u8 0), (.int .u8 0), (.int .u8 0), (.int .u8 0), (.int .u8 0), (.int .u8 0), (.int .u8 0), (.int .u8 0), (.int .u8 0), (.int .u8 0), (.int .i64 0)] [(0, 1, (.c (.int .i64 4)))]),
    .op (some 136) (some (133, true)) (.eqa false (List.replicate 18 .ki) (.t 134) (.t 135)),
    .op (some 137) none (.pick (.t 133) (.t 136) (.c (.bool false))),
    .op (some 0) none (.mv (.t 137))]
def c21 : CF := ⟨.seq (.reg c21r0) (.seq (.reg c21r1) (.seq (.reg c21r2) (.seq (.reg c21r3) (.seq (.reg c21r4) (.seq (.reg c21r5) (.seq (.reg c21r6) (.seq (.reg c21r7) (.ret)))))))), [.tmp 0], 138⟩
theorem cf21 : cfun Try.prog 21 = some c21 := by kernel_rfl

/-! ### weighbridge/prefix.Check, params 1 -/
def c22r0 : List AStm := [.op (some 1) none (.box (.t 0)),
    .op (some 2) none (.mv (.c (.int .i64 0)))]
def c22r1 : List AStm := [.op (some 4) none (.faddr 0 (.t 1)),
    .op (some 5) none (.load none (.t 4)),
    .op (some 6) none (.faddr 17 (.t 1)),
    .op (some 7) none (.load none (.t 6)),
    .call (some 8) none (.c (.fn (.func 56) [] [])) [(.t 5), (.t 7)],
    .op (some 3) none (.mv (.t 8))]
def c22r2 : List AStm := [.op (some 9) none (.mv (.t 3)),
    .op (some 10) none (.bin .neq (.t 9) (.c (.int .i64 0)))]
def c22r3 : List AStm := [.op (some 11) none (.mv (.t 3)),
    .op (some 2) none (.mv (.t 11))]
def c22r4 : List AStm := []
def c22r5 : List AStm := [.op (some 12) none (.faddr 1 (.t 1)),
    .op (some 13) none (.load (some 16) (.t 12)),
    .op (some 14) none (.faddr 17 (.t 1)),
    .op (some 15) none (.load none (.t 14)),
    .op (some 17) none (.faddr 1 (.t 1)),
    .op (some 18) none (.load (some 16) (.t 17)),
    .callG (some 16) none (.c (.fn (.func 57) [] [])) [(.t 13), (.t 15)],
    .op (some 19) none (.eqa true (List.replicate 16 .ki) (.t 16) (.t 18))]
def c22r6 : List AStm := [.op (some 2) none (.mv (.c (.int .i64 5)))]
def c22r7 : List AStm := [.op (some 2) none (.mv (.c (.int .i64 0)))]
def c22 : CF := ⟨.seq (.reg c22r0) (.seq (.seq (.reg c22r1) (.seq (.reg c22r2) (.cond (.t 10) (.seq (.reg c22r3) (.ret)) (.skip)))) (.seq (.seq (.dreg c22r4 c22r5) (.cond (.t 19) (.seq (.reg c22r6) (.ret)) (.skip))) (.seq (.reg c22r7) (.ret)))), [.tmp 2], 20⟩
theorem cf22 : cfun Try.prog 22 = some c22 := by kernel_rfl

/-! ### weighbridge/prefix.Last, params 1 -/
def c24r0 : List AStm := [.op (some 1) none (.box (.t 0)),
    .op (some 2) none (.alloc (List.replicate 16 (.int .u8 0)))]
def c24r1 : List AStm := [.op (some 8) none (.load (some 18) (.t 1)),
    .call (some 9) none (.c (.fn (.func 61) [] [])) [(.t 8)],
    .op (some 10) none (.un .not (.t 9))]
def c24r2 : List AStm := [.op (some 11) none (.build (List.replicate 16 (.int .u8 0)) []),
    .op none none (.store 16 (.t 2) (.t 11))]
def c24r3 : List AStm := [.op (some 13) none (.faddr 0 (.t 1)),
    .op (some 14) none (.load none (.t 13)),
    .call (some 15) none (.c (.fn (.func 60) [] [])) [(.t 14)],
    .op (some 12) none (.mv (.t 15)),
    .op (some 16) none (.ext (.t 12) 0),
    .op (some 17) none (.ext (.t 12) 1),
    .op (some 3) none (.mv (.t 16)),
    .op (some 4) none (.mv (.t 17))]
def c24r4 : List AStm := [.op (some 18) none (.faddr 1 (.t 1)),
    .op (some 19) none (.load (some 16) (.t 18)),
    .op (some 5) none (.alloc (List.replicate 16 (.int .u8 0))),
    .op none none (.store 16 (.t 5) (.t 19))]
def c24r5 : List AStm := [.op (some 20) none (.mv (.t 3)),
    .op (some 21) none (.bin .quo (.t 20) (.c (.int .i64 8))),
    .op (some 22) none (.mv (.c (.int .i64 0)))]
def c24r6 : List AStm := [.op (some 23) none (.bin .lss (.t 22) (.t 21))]
def c24r7 : List AStm := [.op (some 24) none (.mv (.t 22)),
    .op (some 6) none (.mv (.t 24))]
def c24r8 : List AStm := [.op (some 25) none (.faddr 17 (.t 1)),
    .op (some 26) none (.load none (.t 25)),
    .op (some 27) none (.mv (.t 6)),
    .op (some 28) none (.bin .mul (.c (.int .i64 8)) (.t 27)),
    .op (some 29) none (.bin .sub (.t 26) (.t 28)),
    .op (some 7) none (.mv (.t 29))]
def c24r9 : List AStm := [.op (some 31) none (.mv (.t 7)),
    .op (some 32) none (.bin .leq (.t 31) (.c (.int .i64 0))),
    .op (some 30) none (.mv (.t 32))]
def c24r10 : List AStm := [.op (some 33) none (.mv (.t 6)),
    .op (some 34) none (.ixa 16 1 (.t 5) (.t 33)),
    .op none none (.store 1 (.t 34) (.c (.int .u8 255)))]
def c24r11 : List AStm := [.op (some 36) none (.mv (.t 7)),
    .op (some 37) none (.bin .lss (.t 36) (.c (.int .i64 8))),
    .op (some 35) none (.mv (.t 37))]
def c24r12 : List AStm := [.op (some 38) none (.mv (.t 6)),
    .op (some 39) none (.ixa 16 1 (.t 5) (.t 38)),
    .op (some 40) none (.load none (.t 39)),
    .op (some 41) none (.mv (.t 7)),
    .op (some 42) none (.conv .u64 (.t 41)),
    .op (some 43) none (.bin .shr (.c (.int .u8 255)) (.t 42)),
    .op (some 44) none (.bin .or (.t 40) (.t 43)),
    .op (some 45) none (.ixa 16 1 (.t 5) (.t 38)),
    .op none none (.store 1 (.t 45) (.t 44))]
def c24r13 : List AStm := [.op (some 46) none (.bin .add (.t 22) (.c (.int .i64 1))),
    .op (some 22) none (.mv (.t 46))]
def c24l14 : AC := .seq (.reg c24r6) (.seq (.cond (.t 23) (.skip) (.exit 0)) (.seq (.block 1 (.seq (.reg c24r7) (.seq (.reg c24r8) (.block 2 (.seq (.reg c24r9) (.cond (.t 30) (.reg c24r10) (.seq (.reg c24r11) (.cond (.t 35) (.reg c24r12) (.skip))))))))) (.reg c24r13)))
def c24r15 : List AStm := [.op (some 47) none (.load (some 16) (.t 5)),
    .op none none (.store 16 (.t 2) (.t 47))]
def c24 : CF := ⟨.seq (.reg c24r0) (.seq (.seq (.reg c24r1) (.cond (.t 10) (.seq (.reg c24r2) (.ret)) (.skip))) (.seq (.reg c24r3) (.seq (.reg c24r4) (.seq (.seq (.reg c24r5) (.block 0 (.loop c24l14))) (.seq (.reg c24r15) (.ret)))))), [.cell 2 (some 16)], 48⟩
theorem cf24 : cfun Try.prog 24 = some c24 := by kernel_rfl

/-! ### weighbridge/prefix.Has, params 3 -/
def c27r0 : List AStm := [.op (some 3) none (.box (.t 0)),
    .op (some 5) none (.box (.t 2)),
    .op (some 6) none (.mv (.c (.bool false)))]
def c27r1 : List AStm := []
def c27r2 : List AStm := [.op (some 7) none (.load (some 18) (.t 3)),
    .callG (some 8) none (.c (.fn (.func 61) [] [])) [(.t 7)],
    .op (some 9) none (.mv (.t 8)),
    .op (some 10) (some (9, true)) (.mv (.t 1)),
    .op (some 11) (some (9, true)) (.faddr 0 (.t 3)),
    .op (some 12) (some (9, true)) (.load none (.t 11)),
    .op (some 13) (some (9, true)) (.bin .eql (.t 10) (.t 12)),
    .op (some 14) none (.pick (.t 9) (.t 13) (.c (.bool false))),
    .op (some 15) none (.mv (.t 14)),
    .op (some 16) (some (15, true)) (.load (some 16) (.t 5)),
    .op (some 17) (some (15, true)) (.faddr 17 (.t 3)),
    .op (some 18) (some (15, true)) (.load none (.t 17)),
    .op (some 20) (some (15, true)) (.faddr 1 (.t 3)),
    .op (some 21) (some (15, true)) (.load (some 16) (.t 20)),
    .callG (some 19) (some (15, true)) (.c (.fn (.func 57) [] [])) [(.t 16), (.t 18)],
    .op (some 22) (some (15, true)) (.eqa false (List.replicate 16 .ki) (.t 19) (.t 21)),
    .op (some 23) none (.pick (.t 15) (.t 22) (.c (.bool false))),
    .op (some 6) none (.mv (.t 23))]
def c27 : CF := ⟨.seq (.reg c27r0) (.seq (.dreg c27r1 c27r2) (.ret)), [.tmp 6], 24⟩
theorem cf27 : cfun Try.prog 27 = some c27 := by kernel_rfl

/-! ### weighbridge/prefix.Within, params 2 -/
def c29r0 : List AStm := [.op (some 2) none (.box (.t 0)),
    .op (some 3) none (.box (.t 1)),
    .op (some 4) none (.mv (.c (.bool false)))]
def c29r1 : List AStm := [.op (some 5) none (.load (some 18) (.t 2)),
    .call (some 6) none (.c (.fn (.func 61) [] [])) [(.t 5)],
    .op (some 7) none (.mv (.t 6)),
    .op (some 8) (some (7, true)) (.faddr 17 (.t 2)),
    .op (some 9) (some (7, true)) (.load none (.t 8)),
    .op (some 10) (some (7, true)) (.faddr 17 (.t 3)),
    .op (some 11) (some (7, true)) (.load none (.t 10)),
    .op (some 12) (some (7, true)) (.bin .geq (.t 9) (.t 11)),
    .op (some 13) none (.pick (.t 7) (.t 12) (.c (.bool false))),
    .op (some 14) none (.mv (.t 13)),
    .op (some 15) (some (14, true)) (.load (some 18) (.t 3)),
    .op (some 16) (some (14, true)) (.faddr 0 (.t 2)),
    .op (some 17) (some (14, true)) (.load none (.t 16)),
    .op (some 18) (some (14, true)) (.faddr 1 (.t 2)),
    .op (some 19) (some (14, true)) (.load (some 16) (.t 18)),
    .call (some 20) (some (14, true)) (.c (.fn (.func 27) [] [])) [(.t 15), (.t 17), (.t 19)],
    .op (some 21) none (.pick (.t 14) (.t 20) (.c (.bool false))),
    .op (some 4) none (.mv (.t 21))]
def c29 : CF := ⟨.seq (.reg c29r0) (.seq (.reg c29r1) (.ret)), [.tmp 4], 22⟩
theorem cf29 : cfun Try.prog 29 = some c29 := by kernel_rfl

/-! ### weighbridge/prefix.Meet, params 2 -/
def c30r0 : List AStm := [.op (some 2) none (.box (.t 0)),
    .op (some 3) none (.box (.t 1)),
    .op (some 4) none (.mv (.c (.bool false)))]
def c30r1 : List AStm := [.op (some 5) none (.load (some 18) (.t 2)),
    .op (some 6) none (.load (some 18) (.t 3)),
    .call (some 7) none (.c (.fn (.func 29) [] [])) [(.t 5), (.t 6)],
    .op (some 8) none (.mv (.t 7)),
    .op (some 9) (some (8, false)) (.load (some 18) (.t 3)),
    .op (some 10) (some (8, false)) (.load (some 18) (.t 2)),
    .call (some 11) (some (8, false)) (.c (.fn (.func 29) [] [])) [(.t 9), (.t 10)],
    .op (some 12) none (.pick (.t 8) (.c (.bool true)) (.t 11)),
    .op (some 4) none (.mv (.t 12))]
def c30 : CF := ⟨.seq (.reg c30r0) (.seq (.reg c30r1) (.ret)), [.tmp 4], 13⟩
theorem cf30 : cfun Try.prog 30 = some c30 := by kernel_rfl

/-! ### weighbridge/prefix.Parse, params 1 -/
def c31r0 : List AStm := [.op (some 2) none (.alloc [(.int .i64 0), (.int .u8 0), (.int .u8 0), (.int .u8 0), (.int .u8 0), (.int .u8 0), (.int .u8 0), (.int .u8 0), (.int .u8 0), (.int .u8 0), (.int .u8 0), (.int .u8 0), (.int .u8 0), (.int .u8 0), (.int .u8 0), (.int .u8 0), (.int .u8 0), (.int .i64 0)]),
    .op (some 3) none (.mv (.c (.int .i64 0)))]
def c31r1 : List AStm := [.op (some 14) none (.mv (.t 0)),
    .call (some 15) none (.c (.fn (.func 63) [] [])) [(.t 14), (.c (.str (bs [47])))],
    .op (some 13) none (.mv (.t 15)),
    .op (some 16) none (.ext (.t 13) 0),
    .op (some 17) none (.ext (.t 13) 1),
    .op (some 18) none (.ext (.t 13) 2),
    .op (some 4) none (.mv (.t 16)),
    .op (some 5) none (.mv (.t 17)),
    .op (some 6) none (.mv (.t 18))]
def c31r2 : List AStm := [.op (some 20) none (.mv (.t 5)),
    .call (some 21) none (.c (.fn (.func 64) [] [])) [(.t 20)],
    .op (some 19) none (.mv (.t 21)),
    .op (some 22) none (.ext (.t 19) 0),
    .op (some 23) none (.ext (.t 19) 1),
    .op (some 7) none (.mv (.t 22)),
    .op (some 8) none (.mv (.t 23))]
def c31r3 : List AStm := [.op (some 24) none (.mv (.t 6)),
    .op (some 25) none (.un .not (.t 24)),
    .op (some 26) none (.mv (.t 25)),
    .op (some 27) (some (26, false)) (.mv (.t 8)),
    .op (some 28) (some (26, false)) (.un .not (.t 27)),
    .op (some 29) none (.pick (.t 26) (.c (.bool true)) (.t 28))]
def c31r4 : List AStm := [.op (some 30) none (.build [(.int .i64 0), (.int .u8 0), (.int .u8 0), (.int .u8 0), (.int .u8 0), (.int .u8 0), (.int .u8 0), (.int .u8 0), (.int .u8 0), (.int .u8 0), (.int .u8 0), (.int .u8 0), (.int .u8 0), (.int .u8 0), (.int .u8 0), (.int .u8 0), (.int .u8 0), (.int .i64 0)] []),
    .op none none (.store 18 (.t 2) (.t 30)),
    .op (some 3) none (.mv (.c (.int .i64 3)))]
def c31r5 : List AStm := [.op (some 31) none (.mv (.t 7)),
    .op (some 32) none (.build [(.int .i64 0), (.int .u8 0), (.int .u8 0), (.int .u8 0), (.int .u8 0), (.int .u8 0), (.int .u8 0), (.int .u8 0), (.int .u8 0), (.int .u8 0), (.int .u8 0), (.int .u8 0), (.int .u8 0), (.int .u8 0), (.int .u8 0), (.int .u8 0), (.int .u8 0), (.int .i64 0)] [(0, 1, (.c (.int .i64 4))), (17, 1, (.t 31))]),
    .op (some 9) none (.alloc [(.int .i64 0), (.int .u8 0), (.int .u8 0), (.int .u8 0), (.int .u8 0), (.int .u8 0), (.int .u8 0), (.int .u8 0), (.int .u8 0), (.int .u8 0), (.int .u8 0), (.int .u8 0), (.int .u8 0), (.int .u8 0), (.int .u8 0), (.int .u8 0), (.int .u8 0), (.int .i64 0)]),
    .op none none (.store 18 (.t 9) (.t 32))]
def c31r6 : List AStm := [.op (some 34) none (.mv (.t 4)),
    .call (some 35) none (.c (.fn (.func 65) [] [])) [(.t 34)],
    .op (some 33) none (.mv (.t 35)),
    .op (some 36) none (.ext (.t 33) 0),
    .op (some 37) none (.ext (.t 33) 1),
    .op (some 10) none (.alloc (List.replicate 4 (.int .u8 0))),
    .op none none (.store 4 (.t 10) (.t 36)),
    .op (some 11) none (.mv (.t 37))]
def c31r7 : List AStm := [.op (some 38) none (.mv (.t 11)),
    .op (some 39) none (.bin .eql (.t 38) (.c (.int .i64 0)))]
def c31r8 : List AStm := [.op (some 40) none (.faddr 1 (.t 9)),
    .op (some 41) none (.sarr 16 1 (.t 40) none none),
    .op (some 42) none (.sarr 4 1 (.t 10) none none)]
def c31r9 : List AStm := [.op (some 43) none (.copy 1 (.t 41) (.t 42))]
def c31r10 : List AStm := [.op (some 45) none (.mv (.t 4)),
    .call (some 46) none (.c (.fn (.func 66) [] [])) [(.t 45)],
    .op (some 44) none (.mv (.t 46)),
    .op (some 47) none (.ext (.t 44) 0),
    .op (some 48) none (.ext (.t 44) 1),
    .op (some 49) none (.faddr 1 (.t 9)),
    .op none none (.store 16 (.t 49) (.t 47)),
    .op (some 11) none (.mv (.t 48))]
def c31r11 : List AStm := [.op (some 50) none (.mv (.t 11)),
    .op (some 51) none (.bin .eql (.t 50) (.c (.int .i64 0)))]
def c31r12 : List AStm := [.op (some 52) none (.faddr 0 (.t 9)),
    .op none none (.store 1 (.t 52) (.c (.int .i64 6)))]
def c31r13 : List AStm := [.op (some 53) none (.build [(.int .i64 0), (.int .u8 0), (.int .u8 0), (.int .u8 0), (.int .u8 0), (.int .u8 0), (.int .u8 0), (.int .u8 0), (.int .u8 0), (.int .u8 0), (.int .u8 0), (.int .u8 0), (.int .u8 0), (.int .u8 0), (.int .u8 0), (.int .u8 0), (.int .u8 0), (.int .i64 0)] []),
    .op none none (.store 18 (.t 2) (.t 53)),
    .op (some 3) none (.mv (.c (.int .i64 3)))]
def c31r14 : List AStm := [.op (some 54) none (.load (some 18) (.t 9)),
    .call (some 55) none (.c (.fn (.func 22) [] [])) [(.t 54)],
    .op (some 12) none (.mv (.t 55))]
def c31r15 : List AStm := [.op (some 56) none (.mv (.t 12)),
    .op (some 57) none (.bin .neq (.t 56) (.c (.int .i64 0)))]
def c31r16 : List AStm := [.op (some 58) none (.build [(.int .i64 0), (.int .u8 0), (.int .u8 0), (.int .u8 0), (.int .u8 0), (.int .u8 0), (.int .u8 0), (.int .u8 0), (.int .u8 0), (.int .u8 0), (.int .u8 0), (.int .u8 0), (.int .u8 0), (.int .u8 0), (.int .u8 0), (.int .u8 0), (.int .u8 0), (.int .i64 0)] []),
    .op (some 59) none (.mv (.t 12)),
    .op none none (.store 18 (.t 2) (.t 58)),
    .op (some 3) none (.mv (.t 59))]
def c31r17 : List AStm := [.op (some 60) none (.load (some 18) (.t 9)),
    .op none none (.store 18 (.t 2) (.t 60)),
    .op (some 3) none (.mv (.c (.int .i64 0)))]
def c31 : CF := ⟨.seq (.reg c31r0) (.seq (.reg c31r1) (.seq (.reg c31r2) (.seq (.seq (.reg c31r3) (.cond (.t 29) (.seq (.reg c31r4) (.ret)) (.skip))) (.seq (.reg c31r5) (.seq (.seq (.reg c31r6) (.seq (.reg c31r7) (.cond (.t 39) (.dreg c31r8 c31r9) (.seq (.reg c31r10) (.seq (.reg c31r11) (.cond (.t 51) (.reg c31r12) (.seq (.reg c31r13) (.ret)))))))) (.seq (.seq (.reg c31r14) (.seq (.reg c31r15) (.cond (.t 57) (.seq (.reg c31r16) (.ret)) (.skip)))) (.seq (.reg c31r17) (.ret)))))))), [.cell 2 (some 18), .tmp 3], 61⟩
theorem cf31 : cfun Try.prog 31 = some c31 := by kernel_rfl

/-! ### weighbridge/prefix.Print, params 1 -/
def c32r0 : List AStm := [.op (some 1) none (.box (.t 0)),
    .op (some 2) none (.mv (.c (.str (bs []))))]
def c32r1 : List AStm := [.op (some 4) none (.load (some 18) (.t 1)),
    .call (some 5) none (.c (.fn (.func 61) [] [])) [(.t 4)],
    .op (some 6) none (.un .not (.t 5))]
def c32r2 : List AStm := [.op (some 2) none (.mv (.c (.str (bs []))))]
def c32r3 : List AStm := [.op (some 7) none (.faddr 1 (.t 1)),
    .op (some 8) none (.load (some 16) (.t 7)),
    .call (some 9) none (.c (.fn (.func 67) [] [])) [(.t 8)],
    .op (some 3) none (.mv (.t 9))]
def c32r4 : List AStm := [.op (some 10) none (.faddr 0 (.t 1)),
    .op (some 11) none (.load none (.t 10)),
    .op (some 12) none (.bin .eql (.t 11) (.c (.int .i64 4)))]
def c32r5 : List AStm := [.op (some 13) none (.faddr 1 (.t 1)),
    .op (some 14) none (.sarr 16 1 (.t 13) none (some (.c (.int .i64 4)))),
    .op (some 15) none (.s2a 4 1 (.t 14)),
    .op (some 16) none (.load (some 4) (.t 15)),
    .call (some 17) none (.c (.fn (.func 68) [] [])) [(.t 16)],
    .op (some 3) none (.mv (.t 17))]
def c32r6 : List AStm := [.op (some 18) none (.mv (.t 3)),
    .op (some 19) none (.bin .add (.t 18) (.c (.str (bs [47])))),
    .op (some 20) none (.faddr 17 (.t 1)),
    .op (some 21) none (.load none (.t 20)),
    .op (some 22) none (.conv .u64 (.t 21)),
    .call (some 23) none (.c (.fn (.func 70) [] [])) [(.t 22)],
    .call (some 24) none (.c (.fn (.func 69) [] [])) [(.t 23)],
    .op (some 25) none (.bin .add (.t 19) (.t 24)),
    .op (some 2) none (.mv (.t 25))]
def c32 : CF := ⟨.seq (.reg c32r0) (.seq (.seq (.reg c32r1) (.cond (.t 6) (.seq (.reg c32r2) (.ret)) (.skip))) (.seq (.reg c32r3) (.seq (.seq (.reg c32r4) (.cond (.t 12) (.reg c32r5) (.skip))) (.seq (.reg c32r6) (.ret))))), [.tmp 2], 26⟩
theorem cf32 : cfun Try.prog 32 = some c32 := by kernel_rfl

/-! ### weighbridge/prefix.All, params 1 -/
def c33r0 : List AStm := [.op (some 2) none (.alloc [(.int .i64 0), (.int .u8 0), (.int .u8 0), (.int .u8 0), (.int .u8 0), (.int .u8 0), (.int .u8 0), (.int .u8 0), (.int .u8 0), (.int .u8 0), (.int .u8 0), (.int .u8 0), (.int .u8 0), (.int .u8 0), (.int .u8 0), (.int .u8 0), (.int .u8 0), (.int .i64 0)])]
def c33r1 : List AStm := [.op (some 3) none (.mv (.t 0)),
    .op (some 4) none (.build [(.int .i64 0), (.int .u8 0), (.int .u8 0), (.int .u8 0), (.int .u8 0), (.int .u8 0), (.int .u8 0), (.int .u8 0), (.int .u8 0), (.int .u8 0), (.int .u8 0), (.int .u8 0), (.int .u8 0), (.int .u8 0), (.int .u8 0), (.int .u8 0), (.int .u8 0), (.int .i64 0)] [(0, 1, (.t 3))]),
    .op none none (.store 18 (.t 2) (.t 4))]
def c33 : CF := ⟨.seq (.reg c33r0) (.seq (.reg c33r1) (.ret)), [.cell 2 (some 18)], 5⟩
theorem cf33 : cfun Try.prog 33 = some c33 := by kernel_rfl

/-! ### weighbridge/prefix.fits, params 2 -/
def c56r0 : List AStm := [.op (some 4) none (.mv (.c (.int .i64 0)))]
def c56r1 : List AStm := [.op (some 8) none (.mv (.t 0)),
    .call (some 9) none (.c (.fn (.func 60) [] [])) [(.t 8)],
    .op (some 7) none (.mv (.t 9)),
    .op (some 10) none (.ext (.t 7) 0),
    .op (some 11) none (.ext (.t 7) 1),
    .op (some 5) none (.mv (.t 10)),
    .op (some 6) none (.mv (.t 11))]
def c56r2 : List AStm := [.op (some 13) none (.mv (.t 6)),
    .op (some 14) none (.un .not (.t 13)),
    .op (some 12) none (.mv (.t 14))]
def c56r3 : List AStm := [.op (some 4) none (.mv (.c (.int .i64 4)))]
def c56r4 : List AStm := [.op (some 16) none (.mv (.t 1)),
    .op (some 17) none (.bin .lss (.t 16) (.c (.int .i64 0))),
    .op (some 18) none (.mv (.t 17)),
    .op (some 19) (some (18, false)) (.mv (.t 1)),
    .op (some 20) (some (18, false)) (.mv (.t 5)),
    .op (some 21) (some (18, false)) (.bin .gtr (.t 19) (.t 20)),
    .op (some 22) none (.pick (.t 18) (.c (.bool true)) (.t 21)),
    .op (some 15) none (.mv (.t 22))]
def c56r5 : List AStm := [.op (some 4) none (.mv (.c (.int .i64 1)))]
def c56r6 : List AStm := [.op (some 4) none (.mv (.c (.int .i64 0)))]
def c56 : CF := ⟨.seq (.reg c56r0) (.seq (.reg c56r1) (.seq (.block 0 (.seq (.reg c56r2) (.cond (.t 12) (.seq (.reg c56r3) (.ret)) (.seq (.reg c56r4) (.cond (.t 15) (.seq (.reg c56r5) (.ret)) (.skip)))))) (.seq (.reg c56r6) (.ret)))), [.tmp 4], 23⟩
theorem cf56 : cfun Try.prog 56 = some c56 := by kernel_rfl

/-! ### weighbridge/prefix.mask, params 2 -/
def c57r0 : List AStm := [.op (some 2) none (.box (.t 0)),
    .op (some 4) none (.alloc (List.replicate 16 (.int .u8 0)))]
def c57r1 : List AStm := [.op (some 7) none (.mv (.c (.int .i64 0)))]
def c57r2 : List AStm := [.op (some 8) none (.bin .lss (.t 7) (.c (.int .i64 16)))]
def c57r3 : List AStm := [.op (some 9) none (.mv (.t 7)),
    .op (some 5) none (.mv (.t 9))]
def c57r4 : List AStm := [.op (some 10) none (.mv (.t 1)),
    .op (some 11) none (.mv (.t 5)),
    .op (some 12) none (.bin .mul (.c (.int .i64 8)) (.t 11)),
    .op (some 13) none (.bin .sub (.t 10) (.t 12)),
    .op (some 6) none (.mv (.t 13))]
def c57r5 : List AStm := [.op (some 15) none (.mv (.t 6)),
    .op (some 16) none (.bin .leq (.t 15) (.c (.int .i64 0))),
    .op (some 14) none (.mv (.t 16))]
def c57r6 : List AStm := [.op (some 17) none (.mv (.t 5)),
    .op (some 18) none (.ixa 16 1 (.t 2) (.t 17)),
    .op none none (.store 1 (.t 18) (.c (.int .u8 0)))]
def c57r7 : List AStm := [.op (some 20) none (.mv (.t 6)),
    .op (some 21) none (.bin .lss (.t 20) (.c (.int .i64 8))),
    .op (some 19) none (.mv (.t 21))]
def c57r8 : List AStm := [.op (some 22) none (.mv (.t 5)),
    .op (some 23) none (.ixa 16 1 (.t 2) (.t 22)),
    .op (some 24) none (.load none (.t 23)),
    .op (some 25) none (.mv (.t 6)),
    .op (some 26) none (.bin .sub (.c (.int .i64 8)) (.t 25)),
    .op (some 27) none (.conv .u64 (.t 26)),
    .op (some 28) none (.bin .shl (.c (.int .u8 255)) (.t 27)),
    .op (some 29) none (.bin .and (.t 24) (.t 28)),
    .op (some 30) none (.ixa 16 1 (.t 2) (.t 22)),
    .op none none (.store 1 (.t 30) (.t 29))]
def c57r9 : List AStm := [.op (some 31) none (.bin .add (.t 7) (.c (.int .i64 1))),
    .op (some 7) none (.mv (.t 31))]
def c57l10 : AC := .seq (.reg c57r2) (.seq (.cond (.t 8) (.skip) (.exit 0)) (.seq (.block 1 (.seq (.reg c57r3) (.seq (.reg c57r4) (.block 2 (.seq (.reg c57r5) (.cond (.t 14) (.reg c57r6) (.seq (.reg c57r7) (.cond (.t 19) (.reg c57r8) (.skip))))))))) (.reg c57r9)))
def c57r11 : List AStm := [.op (some 32) none (.load (some 16) (.t 2)),
    .op none none (.store 16 (.t 4) (.t 32))]
def c57 : CF := ⟨.seq (.reg c57r0) (.seq (.seq (.reg c57r1) (.block 0 (.loop c57l10))) (.seq (.reg c57r11) (.ret))), [.cell 4 (some 16)], 33⟩
theorem cf57 : cfun Try.prog 57 = some c57 := by kernel_rfl

/-! ### weighbridge/prefix.most, params 1 -/
def c60r0 : List AStm := [.op (some 2) none (.mv (.c (.int .i64 0))),
    .op (some 3) none (.mv (.c (.bool false)))]
def c60r1 : List AStm := [.op (some 4) none (.mv (.t 0))]
def c60r2 : List AStm := [.op (some 6) none (.bin .eql (.t 4) (.c (.int .i64 4))),
    .op (some 5) none (.mv (.t 6))]
def c60r3 : List AStm := [.op (some 2) none (.mv (.c (.int .i64 32))),
    .op (some 3) none (.mv (.c (.bool true)))]
def c60r4 : List AStm := [.op (some 8) none (.bin .eql (.t 4) (.c (.int .i64 6))),
    .op (some 7) none (.mv (.t 8))]
def c60r5 : List AStm := [.op (some 2) none (.mv (.c (.int .i64 128))),
    .op (some 3) none (.mv (.c (.bool true)))]
def c60r6 : List AStm := [.op (some 2) none (.mv (.c (.int .i64 0))),
    .op (some 3) none (.mv (.c (.bool false)))]
def c60 : CF := ⟨.seq (.reg c60r0) (.seq (.seq (.reg c60r1) (.block 0 (.seq (.reg c60r2) (.cond (.t 5) (.seq (.reg c60r3) (.ret)) (.seq (.reg c60r4) (.cond (.t 7) (.seq (.reg c60r5) (.ret)) (.skip))))))) (.seq (.reg c60r6) (.ret))), [.tmp 2, .tmp 3], 9⟩
theorem cf60 : cfun Try.prog 60 = some c60 := by kernel_rfl

/-! ### weighbridge/prefix.right, params 1 -/
def c61r0 : List AStm := [.op (some 1) none (.box (.t 0)),
    .op (some 2) none (.mv (.c (.bool false)))]
def c61r1 : List AStm := [.op (some 3) none (.load (some 18) (.t 1)),
    .call (some 4) none (.c (.fn (.func 22) [] [])) [(.t 3)],
    .op (some 5) none (.bin .eql (.t 4) (.c (.int .i64 0))),
    .op (some 2) none (.mv (.t 5))]
def c61 : CF := ⟨.seq (.reg c61r0) (.seq (.reg c61r1) (.ret)), [.tmp 2], 6⟩
theorem cf61 : cfun Try.prog 61 = some c61 := by kernel_rfl

/-! ### strings.Cut, params 2 -/
def c63r0 : List AStm := [.op (some 4) none (.mv (.c (.str (bs [])))),
    .op (some 5) none (.mv (.c (.str (bs [])))),
    .op (some 6) none (.mv (.c (.bool false)))]
def c63r1 : List AStm := [.op (some 7) none (.mv (.t 0)),
    .op (some 8) none (.mv (.t 1)),
    .call (some 9) none (.c (.fn (.func 84) [] [])) [(.t 7), (.t 8)],
    .op (some 10) none (.ext (.t 9) 0),
    .op (some 11) none (.ext (.t 9) 1),
    .op (some 12) none (.ext (.t 9) 2),
    .op (some 4) none (.mv (.t 10)),
    .op (some 5) none (.mv (.t 11)),
    .op (some 6) none (.mv (.t 12))]
def c63 : CF := ⟨.seq (.reg c63r0) (.seq (.reg c63r1) (.ret)), [.tmp 4, .tmp 5, .tmp 6], 13⟩
theorem cf63 : cfun Try.prog 63 = some c63 := by kernel_rfl

/-! ### weighbridge/prefix.length, params 1 -/
def c64r0 : List AStm := [.op (some 2) none (.mv (.c (.int .i64 0))),
    .op (some 3) none (.mv (.c (.bool false)))]
def c64r1 : List AStm := [.op (some 6) none (.mv (.t 0)),
    .op (some 7) none (.bin .eql (.t 6) (.c (.str (bs [])))),
    .op (some 8) none (.mv (.t 7)),
    .op (some 9) (some (8, false)) (.mv (.t 0)),
    .op (some 10) (some (8, false)) (.len true (.t 9)),
    .op (some 11) (some (8, false)) (.bin .gtr (.t 10) (.c (.int .i64 3))),
    .op (some 12) none (.pick (.t 8) (.c (.bool true)) (.t 11)),
    .op (some 13) none (.mv (.t 12)),
    .op (some 14) (some (13, false)) (.mv (.t 0)),
    .op (some 15) (some (13, false)) (.len true (.t 14)),
    .op (some 16) (some (13, false)) (.bin .gtr (.t 15) (.c (.int .i64 1))),
    .op (some 17) (some (13, false)) (.mv (.t 16)),
    .op (some 18) (some (17, true)) (.mv (.t 0)),
    .op (some 19) (some (17, true)) (.ixstr (.t 18) (.c (.int .i64 0))),
    .op (some 20) (some (17, true)) (.bin .eql (.t 19) (.c (.int .u8 48))),
    .op (some 21) (some (13, false)) (.pick (.t 17) (.t 20) (.c (.bool false))),
    .op (some 22) none (.pick (.t 13) (.c (.bool true)) (.t 21))]
def c64r2 : List AStm := [.op (some 2) none (.mv (.c (.int .i64 0))),
    .op (some 3) none (.mv (.c (.bool false)))]
def c64r3 : List AStm := [.op (some 4) none (.mv (.c (.int .i64 0)))]
def c64r4 : List AStm := [.op (some 23) none (.mv (.t 0)),
    .op (some 24) none (.len true (.t 23)),
    .op (some 25) none (.mv (.c (.int .i64 0)))]
def c64r5 : List AStm := [.op (some 26) none (.bin .lss (.t 25) (.t 24))]
def c64r6 : List AStm := [.op (some 27) none (.mv (.t 25)),
    .op (some 5) none (.mv (.t 27))]
def c64r7 : List AStm := [.op (some 28) none (.mv (.t 0)),
    .op (some 29) none (.mv (.t 5)),
    .op (some 30) none (.ixstr (.t 28) (.t 29)),
    .op (some 31) none (.bin .lss (.t 30) (.c (.int .u8 48))),
    .op (some 32) none (.mv (.t 31)),
    .op (some 33) (some (32, false)) (.mv (.t 0)),
    .op (some 34) (some (32, false)) (.mv (.t 5)),
    .op (some 35) (some (32, false)) (.ixstr (.t 33) (.t 34)),
    .op (some 36) (some (32, false)) (.bin .gtr (.t 35) (.c (.int .u8 57))),
    .op (some 37) none (.pick (.t 32) (.c (.bool true)) (.t 36))]
def c64r8 : List AStm := [.op (some 2) none (.mv (.c (.int .i64 0))),
    .op (some 3) none (.mv (.c (.bool false)))]
def c64r9 : List AStm := [.op (some 38) none (.mv (.t 4)),
    .op (some 39) none (.bin .mul (.c (.int .i64 10)) (.t 38)),
    .op (some 40) none (.mv (.t 0)),
    .op (some 41) none (.mv (.t 5)),
    .op (some 42) none (.ixstr (.t 40) (.t 41)),
    .op (some 43) none (.bin .sub (.t 42) (.c (.int .u8 48))),
    .op (some 44) none (.conv .i64 (.t 43)),
    .op (some 45) none (.bin .add (.t 39) (.t 44)),
    .op (some 4) none (.mv (.t 45))]
def c64r10 : List AStm := [.op (some 46) none (.bin .add (.t 25) (.c (.int .i64 1))),
    .op (some 25) none (.mv (.t 46))]
def c64l11 : AC := .seq (.reg c64r5) (.seq (.cond (.t 26) (.skip) (.exit 0)) (.seq (.block 1 (.seq (.reg c64r6) (.seq (.seq (.reg c64r7) (.cond (.t 37) (.seq (.reg c64r8) (.ret)) (.skip))) (.reg c64r9)))) (.reg c64r10)))
def c64r12 : List AStm := [.op (some 47) none (.mv (.t 4)),
    .op (some 2) none (.mv (.t 47)),
    .op (some 3) none (.mv (.c (.bool true)))]
def c64 : CF := ⟨.seq (.reg c64r0) (.seq (.seq (.reg c64r1) (.cond (.t 22) (.seq (.reg c64r2) (.ret)) (.skip))) (.seq (.reg c64r3) (.seq (.seq (.reg c64r4) (.block 0 (.loop c64l11))) (.seq (.reg c64r12) (.ret))))), [.tmp 2, .tmp 3], 48⟩
theorem cf64 : cfun Try.prog 64 = some c64 := by kernel_rfl

/-! ### weighbridge/dotted.Parse, params 1 -/
def c65r0 : List AStm := [.op (some 2) none (.alloc (List.replicate 4 (.int .u8 0))),
    .op (some 3) none (.mv (.c (.int .i64 0)))]
def c65r1 : List AStm := [.op (some 4) none (.alloc (List.replicate 4 (.int .u8 0)))]
def c65r2 : List AStm := [.op (some 5) none (.mv (.c (.int .i64 0)))]
def c65r3 : List AStm := [.op (some 10) none (.mv (.c (.int .i64 0)))]
def c65r4 : List AStm := [.op (some 11) none (.bin .lss (.t 10) (.c (.int .i64 4)))]
def c65r5 : List AStm := [.op (some 12) none (.mv (.t 10)),
    .op (some 6) none (.mv (.t 12))]
def c65r6 : List AStm := [.op (some 14) none (.mv (.t 0)),
    .call (some 15) none (.c (.fn (.func 85) [] [])) [(.t 14)],
    .op (some 13) none (.mv (.t 15)),
    .op (some 16) none (.ext (.t 13) 0),
    .op (some 17) none (.ext (.t 13) 1),
    .op (some 18) none (.ext (.t 13) 2),
    .op (some 7) none (.mv (.t 16)),
    .op (some 8) none (.mv (.t 17)),
    .op (some 9) none (.mv (.t 18))]
def c65r7 : List AStm := [.op (some 20) none (.mv (.t 9)),
    .op (some 21) none (.un .not (.t 20)),
    .op (some 19) none (.mv (.t 21))]
def c65r8 : List AStm := [.op (some 23) none (.mv (.t 7)),
    .op (some 24) none (.bin .gtr (.t 23) (.c (.int .i64 255))),
    .op (some 22) none (.mv (.t 24))]
def c65r9 : List AStm := [.op (some 25) none (.build (List.replicate 4 (.int .u8 0)) []),
    .op none none (.store 4 (.t 2) (.t 25)),
    .op (some 3) none (.mv (.c (.int .i64 3)))]
def c65r10 : List AStm := [.op (some 5) none (.mv (.c (.int .i64 1)))]
def c65r11 : List AStm := [.op (some 26) none (.mv (.t 6)),
    .op (some 27) none (.mv (.t 7)),
    .op (some 28) none (.conv .u8 (.t 27)),
    .op (some 29) none (.ixa 4 1 (.t 4) (.t 26)),
    .op none none (.store 1 (.t 29) (.t 28))]
def c65r12 : List AStm := [.op (some 30) none (.mv (.t 8)),
    .op (some 0) none (.mv (.t 30))]
def c65r13 : List AStm := [.op (some 31) none (.mv (.t 6)),
    .op (some 32) none (.bin .add (.t 31) (.c (.int .i64 1))),
    .op (some 33) none (.bin .lss (.t 32) (.c (.int .i64 4)))]
def c65r14 : List AStm := [.op (some 34) none (.mv (.t 0)),
    .op (some 35) none (.bin .eql (.t 34) (.c (.str (bs [])))),
    .op (some 36) none (.mv (.t 35)),
    .op (some 37) (some (36, false)) (.mv (.t 0)),
    .op (some 38) (some (36, false)) (.ixstr (.t 37) (.c (.int .i64 0))),
    .op (some 39) (some (36, false)) (.bin .neq (.t 38) (.c (.int .u8 46))),
    .op (some 40) none (.pick (.t 36) (.c (.bool true)) (.t 39))]
def c65r15 : List AStm := [.op (some 41) none (.build (List.replicate 4 (.int .u8 0)) []),
    .op none none (.store 4 (.t 2) (.t 41)),
    .op (some 3) none (.mv (.c (.int .i64 3)))]
def c65r16 : List AStm := [.op (some 42) none (.mv (.t 0)),
    .op (some 43) none (.sstr (.t 42) (some (.c (.int .i64 1))) none),
    .op (some 0) none (.mv (.t 43))]
def c65r17 : List AStm := [.op (some 44) none (.bin .add (.t 10) (.c (.int .i64 1))),
    .op (some 10) none (.mv (.t 44))]
def c65l18 : AC := .seq (.reg c65r4) (.seq (.cond (.t 11) (.skip) (.exit 0)) (.seq (.block 1 (.seq (.reg c65r5) (.seq (.reg c65r6) (.seq (.block 2 (.seq (.block 5 (.seq (.block 4 (.seq (.block 3 (.seq (.seq (.seq (.reg c65r7) (.cond (.t 19) (.exit 3) (.skip))) (.seq (.reg c65r8) (.cond (.t 22) (.exit 4) (.skip)))) (.exit 5))) (.seq (.seq (.reg c65r9) (.ret)) (.exit 2)))) (.reg c65r10))) (.seq (.reg c65r11) (.exit 2)))) (.seq (.reg c65r12) (.seq (.reg c65r13) (.cond (.t 33) (.seq (.seq (.reg c65r14) (.cond (.t 40) (.seq (.reg c65r15) (.ret)) (.skip))) (.reg c65r16)) (.skip)))))))) (.reg c65r17)))
def c65r19 : List AStm := [.op (some 46) none (.mv (.t 0)),
    .op (some 47) none (.bin .neq (.t 46) (.c (.str (bs [])))),
    .op (some 45) none (.mv (.t 47))]
def c65r20 : List AStm := [.op (some 48) none (.build (List.replicate 4 (.int .u8 0)) []),
    .op none none (.store 4 (.t 2) (.t 48)),
    .op (some 3) none (.mv (.c (.int .i64 3)))]
def c65r21 : List AStm := [.op (some 50) none (.mv (.t 5)),
    .op (some 51) none (.bin .neq (.t 50) (.c (.int .i64 0))),
    .op (some 49) none (.mv (.t 51))]
def c65r22 : List AStm := [.op (some 52) none (.build (List.replicate 4 (.int .u8 0)) []),
    .op (some 53) none (.mv (.t 5)),
    .op none none (.store 4 (.t 2) (.t 52)),
    .op (some 3) none (.mv (.t 53))]
def c65r23 : List AStm := [.op (some 54) none (.load (some 4) (.t 4)),
    .op none none (.store 4 (.t 2) (.t 54)),
    .op (some 3) none (.mv (.c (.int .i64 0)))]
def c65 : CF := ⟨.seq (.reg c65r0) (.seq (.reg c65r1) (.seq (.reg c65r2) (.seq (.seq (.reg c65r3) (.block 0 (.loop c65l18))) (.seq (.block 6 (.seq (.reg c65r19) (.cond (.t 45) (.seq (.reg c65r20) (.ret)) (.seq (.reg c65r21) (.cond (.t 49) (.seq (.reg c65r22) (.ret)) (.skip)))))) (.seq (.reg c65r23) (.ret)))))), [.cell 2 (some 4), .tmp 3], 55⟩
theorem cf65 : cfun Try.prog 65 = some c65 := by kernel_rfl

/-! ### weighbridge/colons.Parse, params 1 -/
def c66r0 : List AStm := [.op (some 2) none (.alloc (List.replicate 16 (.int .u8 0))),
    .op (some 3) none (.mv (.c (.int .i64 0)))]
def c66r1 : List AStm := [.op (some 8) none (.mv (.t 0)),
    .op (some 9) none (.build [(.str (bs [])), (.int .u16 0), (.int .u16 0), (.int .u16 0), (.int .u16 0), (.int .u16 0), (.int .u16 0), (.int .u16 0), (.int .u16 0), (.int .i64 0), (.int .i64 0)] [(0, 1, (.t 8)), (10, 1, (.c (.int .i64 (-1))))]),
    .op (some 4) none (.alloc [(.str (bs [])), (.int .u16 0), (.int .u16 0), (.int .u16 0), (.int .u16 0), (.int .u16 0), (.int .u16 0), (.int .u16 0), (.int .u16 0), (.int .i64 0), (.int .i64 0)]),
    .op none none (.store 11 (.t 4) (.t 9))]
def c66r2 : List AStm := [.call (some 10) none (.c (.fn (.func 86) [] [])) [(.t 4)],
    .op (some 11) none (.un .not (.t 10))]
def c66r3 : List AStm := [.op (some 12) none (.build (List.replicate 16 (.int .u8 0)) []),
    .op none none (.store 16 (.t 2) (.t 12)),
    .op (some 3) none (.mv (.c (.int .i64 3)))]
def c66r4 : List AStm := [.op (some 5) none (.alloc (List.replicate 16 (.int .u8 0)))]
def c66r5 : List AStm := [.op (some 13) none (.faddr 9 (.t 4)),
    .op (some 14) none (.load none (.t 13)),
    .op (some 15) none (.mv (.c (.int .i64 0)))]
def c66r6 : List AStm := [.op (some 16) none (.bin .lss (.t 15) (.t 14))]
def c66r7 : List AStm := [.op (some 17) none (.mv (.t 15)),
    .op (some 6) none (.mv (.t 17))]
def c66r8 : List AStm := [.op (some 18) none (.mv (.t 6)),
    .op (some 7) none (.mv (.t 18))]
def c66r9 : List AStm := [.op (some 19) none (.faddr 10 (.t 4)),
    .op (some 20) none (.load none (.t 19)),
    .op (some 21) none (.bin .geq (.t 20) (.c (.int .i64 0))),
    .op (some 22) none (.mv (.t 21)),
    .op (some 23) (some (22, true)) (.mv (.t 6)),
    .op (some 24) (some (22, true)) (.faddr 10 (.t 4)),
    .op (some 25) (some (22, true)) (.load none (.t 24)),
    .op (some 26) (some (22, true)) (.bin .geq (.t 23) (.t 25)),
    .op (some 27) none (.pick (.t 22) (.t 26) (.c (.bool false)))]
def c66r10 : List AStm := [.op (some 28) none (.mv (.t 7)),
    .op (some 29) none (.faddr 9 (.t 4)),
    .op (some 30) none (.load none (.t 29)),
    .op (some 31) none (.bin .sub (.c (.int .i64 8)) (.t 30)),
    .op (some 32) none (.bin .add (.t 28) (.t 31)),
    .op (some 7) none (.mv (.t 32))]
def c66r11 : List AStm := [.op (some 33) none (.mv (.t 7)),
    .op (some 34) none (.bin .mul (.c (.int .i64 2)) (.t 33)),
    .op (some 35) none (.mv (.t 7)),
    .op (some 36) none (.bin .mul (.c (.int .i64 2)) (.t 35)),
    .op (some 37) none (.bin .add (.t 36) (.c (.int .i64 1))),
    .op (some 38) none (.mv (.t 6)),
    .op (some 39) none (.faddr 1 (.t 4)),
    .op (some 40) none (.ixa 8 1 (.t 39) (.t 38)),
    .op (some 41) none (.load none (.t 40)),
    .op (some 42) none (.bin .shr (.t 41) (.c (.int .u64 8))),
    .op (some 43) none (.conv .u8 (.t 42)),
    .op (some 44) none (.mv (.t 6)),
    .op (some 45) none (.faddr 1 (.t 4)),
    .op (some 46) none (.ixa 8 1 (.t 45) (.t 44)),
    .op (some 47) none (.load none (.t 46)),
    .op (some 48) none (.conv .u8 (.t 47)),
    .op (some 49) none (.ixa 16 1 (.t 5) (.t 34)),
    .op none none (.store 1 (.t 49) (.t 43)),
    .chk 45 none (.faddr 1 (.t 4)),
    .chk 46 none (.ixa 8 1 (.t 45) (.t 44)),
    .chk 47 none (.load none (.t 46)),
    .op (some 50) none (.ixa 16 1 (.t 5) (.t 37)),
    .op none none (.store 1 (.t 50) (.t 48))]
def c66r12 : List AStm := []
def c66r13 : List AStm := [.op (some 51) none (.bin .add (.t 15) (.c (.int .i64 1))),
    .op (some 15) none (.mv (.t 51))]
def c66l14 : AC := .seq (.reg c66r6) (.seq (.cond (.t 16) (.skip) (.exit 0)) (.seq (.block 1 (.seq (.reg c66r7) (.seq (.reg c66r8) (.seq (.seq (.reg c66r9) (.cond (.t 27) (.reg c66r10) (.skip))) (.dreg c66r11 c66r12))))) (.reg c66r13)))
def c66r15 : List AStm := [.op (some 52) none (.load (some 16) (.t 5)),
    .op none none (.store 16 (.t 2) (.t 52)),
    .op (some 3) none (.mv (.c (.int .i64 0)))]
def c66 : CF := ⟨.seq (.reg c66r0) (.seq (.reg c66r1) (.seq (.seq (.reg c66r2) (.cond (.t 11) (.seq (.reg c66r3) (.ret)) (.skip))) (.seq (.reg c66r4) (.seq (.seq (.reg c66r5) (.block 0 (.loop c66l14))) (.seq (.reg c66r15) (.ret)))))), [.cell 2 (some 16), .tmp 3], 53⟩
theorem cf66 : cfun Try.prog 66 = some c66 := by kernel_rfl

/-! ### weighbridge/colons.Print, params 1 -/
def c67r0 : List AStm := [.op (some 1) none (.box (.t 0)),
    .op (some 2) none (.mv (.c (.str (bs []))))]
def c67r1 : List AStm := [.op (some 7) none (.mks 1 1 [(.int .u8 0)] (.c (.int .i64 0)) (.c (.int .i64 39))),
    .op (some 3) none (.mv (.t 7))]
def c67r2 : List AStm := [.op (some 9) none (.load (some 16) (.t 1)),
    .call (some 10) none (.c (.fn (.func 87) [] [])) [(.t 9)],
    .op (some 8) none (.mv (.t 10)),
    .op (some 11) none (.ext (.t 8) 0),
    .op (some 12) none (.ext (.t 8) 1),
    .op (some 4) none (.mv (.t 11)),
    .op (some 5) none (.mv (.t 12))]
def c67r3 : List AStm := [.op (some 6) none (.mv (.c (.int .i64 0)))]
def c67r4 : List AStm := [.op (some 13) none (.mv (.t 6)),
    .op (some 14) none (.bin .lss (.t 13) (.c (.int .i64 8)))]
def c67r5 : List AStm := [.op (some 18) none (.mv (.t 6)),
    .op (some 19) none (.mv (.t 4)),
    .op (some 20) none (.bin .eql (.t 18) (.t 19)),
    .op (some 17) none (.mv (.t 20))]
def c67r6 : List AStm := [.op (some 22) none (.mv (.t 6)),
    .op (some 23) none (.bin .gtr (.t 22) (.c (.int .i64 0))),
    .op (some 24) none (.mv (.t 23)),
    .op (some 25) (some (24, true)) (.mv (.t 6)),
    .op (some 26) (some (24, true)) (.mv (.t 4)),
    .op (some 27) (some (24, true)) (.mv (.t 5)),
    .op (some 28) (some (24, true)) (.bin .add (.t 26) (.t 27)),
    .op (some 29) (some (24, true)) (.bin .neq (.t 25) (.t 28)),
    .op (some 30) none (.pick (.t 24) (.t 29) (.c (.bool false))),
    .op (some 21) none (.mv (.t 30))]
def c67r7 : List AStm := [.op (some 31) none (.mv (.t 3)),
    .op (some 32) none (.bslice 1 [(.int .u8 0), (.int .u8 0)] 2 [(0, 1, (.c (.int .u8 58))), (1, 1, (.c (.int .u8 58)))]),
    .op (some 33) none (.append false 1 1 (.t 31) (.t 32)),
    .op (some 3) none (.mv (.t 33))]
def c67r8 : List AStm := [.op (some 34) none (.mv (.t 6)),
    .op (some 35) none (.mv (.t 5)),
    .op (some 36) none (.bin .sub (.t 35) (.c (.int .i64 1))),
    .op (some 37) none (.bin .add (.t 34) (.t 36)),
    .op (some 6) none (.mv (.t 37))]
def c67r9 : List AStm := [.op (some 38) none (.mv (.t 3)),
    .op (some 39) none (.bslice 1 [(.int .u8 0)] 1 [(0, 1, (.c (.int .u8 58)))]),
    .op (some 40) none (.append false 1 1 (.t 38) (.t 39)),
    .op (some 3) none (.mv (.t 40))]
def c67r10 : List AStm := [.op (some 41) none (.mv (.t 3)),
    .op (some 42) none (.load (some 16) (.t 1)),
    .op (some 43) none (.mv (.t 6)),
    .call (some 44) none (.c (.fn (.func 89) [] [])) [(.t 42), (.t 43)],
    .call (some 45) none (.c (.fn (.func 88) [] [])) [(.t 41), (.t 44)],
    .op (some 3) none (.mv (.t 45))]
def c67r11 : List AStm := [.op (some 15) none (.mv (.t 6)),
    .op (some 16) none (.bin .add (.t 15) (.c (.int .i64 1))),
    .op (some 6) none (.mv (.t 16))]
def c67l12 : AC := .seq (.seq (.reg c67r4) (.cond (.t 14) (.skip) (.exit 0))) (.seq (.block 1 (.block 2 (.seq (.block 5 (.seq (.block 4 (.seq (.block 3 (.seq (.seq (.seq (.reg c67r5) (.cond (.t 17) (.exit 3) (.skip))) (.seq (.reg c67r6) (.cond (.t 21) (.exit 4) (.skip)))) (.exit 5))) (.seq (.seq (.reg c67r7) (.seq (.reg c67r8) (.exit 1))) (.exit 2)))) (.reg c67r9))) (.seq (.reg c67r10) (.exit 2))))) (.reg c67r11))
def c67r13 : List AStm := [.op (some 46) none (.mv (.t 3)),
    .op (some 47) none (.b2s (.t 46)),
    .op (some 2) none (.mv (.t 47))]
def c67 : CF := ⟨.seq (.reg c67r0) (.seq (.reg c67r1) (.seq (.reg c67r2) (.seq (.seq (.reg c67r3) (.block 0 (.loop c67l12))) (.seq (.reg c67r13) (.ret))))), [.tmp 2], 48⟩
theorem cf67 : cfun Try.prog 67 = some c67 := by kernel_rfl

/-! ### weighbridge/dotted.Print, params 1 -/
def c68r0 : List AStm := [.op (some 1) none (.box (.t 0)),
    .op (some 2) none (.mv (.c (.str (bs []))))]
def c68r1 : List AStm := [.op (some 6) none (.mks 1 1 [(.int .u8 0)] (.c (.int .i64 0)) (.c (.int .i64 15))),
    .op (some 3) none (.mv (.t 6))]
def c68r2 : List AStm := [.op (some 7) none (.load (some 4) (.t 1)),
    .op (some 8) none (.mv (.c (.int .i64 0)))]
def c68r3 : List AStm := [.op (some 9) none (.bin .lss (.t 8) (.c (.int .i64 4)))]
def c68r4 : List AStm := [.op (some 10) none (.mv (.t 8)),
    .op (some 11) none (.ixv 4 1 none (.t 7) (.t 8)),
    .op (some 4) none (.mv (.t 10)),
    .op (some 5) none (.mv (.t 11))]
def c68r5 : List AStm := [.op (some 12) none (.mv (.t 4)),
    .op (some 13) none (.bin .gtr (.t 12) (.c (.int .i64 0)))]
def c68r6 : List AStm := [.op (some 14) none (.mv (.t 3)),
    .op (some 15) none (.bslice 1 [(.int .u8 0)] 1 [(0, 1, (.c (.int .u8 46)))]),
    .op (some 16) none (.append false 1 1 (.t 14) (.t 15)),
    .op (some 3) none (.mv (.t 16))]
def c68r7 : List AStm := [.op (some 17) none (.mv (.t 3)),
    .op (some 18) none (.mv (.t 5)),
    .call (some 19) none (.c (.fn (.func 90) [] [])) [(.t 17), (.t 18)],
    .op (some 3) none (.mv (.t 19))]
def c68r8 : List AStm := [.op (some 20) none (.bin .add (.t 8) (.c (.int .i64 1))),
    .op (some 8) none (.mv (.t 20))]
def c68l9 : AC := .seq (.reg c68r3) (.seq (.cond (.t 9) (.skip) (.exit 0)) (.seq (.block 1 (.seq (.reg c68r4) (.seq (.seq (.reg c68r5) (.cond (.t 13) (.reg c68r6) (.skip))) (.reg c68r7)))) (.reg c68r8)))
def c68r10 : List AStm := [.op (some 21) none (.mv (.t 3)),
    .op (some 22) none (.b2s (.t 21)),
    .op (some 2) none (.mv (.t 22))]
def c68 : CF := ⟨.seq (.reg c68r0) (.seq (.reg c68r1) (.seq (.seq (.reg c68r2) (.block 0 (.loop c68l9))) (.seq (.reg c68r10) (.ret)))), [.tmp 2], 23⟩
theorem cf68 : cfun Try.prog 68 = some c68 := by kernel_rfl

/-! ### weighbridge/wide.Text, params 1 -/
def c69r0 : List AStm := [.op (some 1) none (.box (.t 0)),
    .op (some 2) none (.mv (.c (.str (bs []))))]
def c69r1 : List AStm := [.op (some 3) none (.mv (.c .nils))]
def c69r2 : List AStm := [.op (some 9) none (.load (some 2) (.t 1)),
    .call (some 10) none (.c (.fn (.func 91) [] [])) [(.t 9), (.c (.int .u64 1000000000000000000))],
    .op (some 8) none (.mv (.t 10)),
    .op (some 11) none (.ext (.t 8) 0),
    .op (some 12) none (.ext (.t 8) 1),
    .op (some 4) none (.alloc [(.int .u64 0), (.int .u64 0)]),
    .op none none (.store 2 (.t 4) (.t 11)),
    .op (some 5) none (.mv (.t 12))]
def c69r3 : List AStm := [.op (some 13) none (.load (some 2) (.t 4)),
    .op (some 14) none (.build [(.int .u64 0), (.int .u64 0)] []),
    .op (some 15) none (.eqa false [.ki, .ki] (.t 13) (.t 14)),
    .op (some 6) none (.mv (.t 15))]
def c69r4 : List AStm := [.op (some 16) none (.mv (.c (.int .i64 0)))]
def c69r5 : List AStm := [.op (some 17) none (.bin .lss (.t 16) (.c (.int .i64 18)))]
def c69r6 : List AStm := [.op (some 18) none (.mv (.t 16)),
    .op (some 7) none (.mv (.t 18))]
def c69r7 : List AStm := [.op (some 19) none (.mv (.t 6)),
    .op (some 20) none (.mv (.t 19)),
    .op (some 21) (some (20, true)) (.mv (.t 5)),
    .op (some 22) (some (20, true)) (.bin .eql (.t 21) (.c (.int .u64 0))),
    .op (some 23) none (.pick (.t 20) (.t 22) (.c (.bool false))),
    .op (some 24) none (.mv (.t 23)),
    .op (some 25) (some (24, true)) (.mv (.t 7)),
    .op (some 26) (some (24, true)) (.bin .gtr (.t 25) (.c (.int .i64 0))),
    .op (some 27) none (.pick (.t 24) (.t 26) (.c (.bool false)))]
def c69r8 : List AStm := [.op (some 28) none (.mv (.t 3)),
    .op (some 29) none (.mv (.t 5)),
    .op (some 30) none (.bin .rem (.t 29) (.c (.int .u64 10))),
    .op (some 31) none (.bin .add (.c (.int .u64 48)) (.t 30)),
    .op (some 32) none (.conv .u8 (.t 31)),
    .op (some 33) none (.bslice 1 [(.int .u8 0)] 1 [(0, 1, (.t 32))]),
    .op (some 34) none (.append false 1 1 (.t 28) (.t 33)),
    .op (some 3) none (.mv (.t 34))]
def c69r9 : List AStm := [.op (some 35) none (.mv (.t 5)),
    .op (some 36) none (.bin .quo (.t 35) (.c (.int .u64 10))),
    .op (some 5) none (.mv (.t 36))]
def c69r10 : List AStm := [.op (some 37) none (.bin .add (.t 16) (.c (.int .i64 1))),
    .op (some 16) none (.mv (.t 37))]
def c69l11 : AC := .seq (.reg c69r5) (.seq (.cond (.t 17) (.skip) (.exit 2)) (.seq (.block 3 (.seq (.reg c69r6) (.seq (.seq (.reg c69r7) (.cond (.t 27) (.exit 2) (.skip))) (.seq (.reg c69r8) (.reg c69r9))))) (.reg c69r10)))
def c69r12 : List AStm := [.op (some 38) none (.mv (.t 6))]
def c69r13 : List AStm := [.op (some 39) none (.load (some 2) (.t 4)),
    .op none none (.store 2 (.t 1) (.t 39))]
def c69l14 : AC := .block 1 (.seq (.reg c69r2) (.seq (.reg c69r3) (.seq (.seq (.reg c69r4) (.block 2 (.loop c69l11))) (.seq (.seq (.reg c69r12) (.cond (.t 38) (.exit 0) (.skip))) (.reg c69r13)))))
def c69r15 : List AStm := [.op (some 40) none (.mv (.t 3)),
    .call (some 41) none (.c (.fn (.func 92) [] [])) [(.t 40)]]
def c69r16 : List AStm := [.op (some 42) none (.mv (.t 3)),
    .op (some 43) none (.b2s (.t 42)),
    .op (some 2) none (.mv (.t 43))]
def c69 : CF := ⟨.seq (.reg c69r0) (.seq (.reg c69r1) (.seq (.block 0 (.loop c69l14)) (.seq (.reg c69r15) (.seq (.reg c69r16) (.ret))))), [.tmp 2], 44⟩
theorem cf69 : cfun Try.prog 69 = some c69 := by kernel_rfl

/-! ### weighbridge/wide.Of, params 1 -/
def c70r0 : List AStm := [.op (some 2) none (.alloc [(.int .u64 0), (.int .u64 0)])]
def c70r1 : List AStm := [.op (some 3) none (.mv (.t 0)),
    .op (some 4) none (.build [(.int .u64 0), (.int .u64 0)] [(1, 1, (.t 3))]),
    .op none none (.store 2 (.t 2) (.t 4))]
def c70 : CF := ⟨.seq (.reg c70r0) (.seq (.reg c70r1) (.ret)), [.cell 2 (some 2)], 5⟩
theorem cf70 : cfun Try.prog 70 = some c70 := by kernel_rfl

/-! ### internal/stringslite.Cut, params 2 -/
def c84r0 : List AStm := [.op (some 4) none (.mv (.c (.str (bs [])))),
    .op (some 5) none (.mv (.c (.str (bs [])))),
    .op (some 6) none (.mv (.c (.bool false)))]
def c84r1 : List AStm := [.op (some 8) none (.mv (.t 0)),
    .op (some 9) none (.mv (.t 1)),
    .call (some 10) none (.c (.fn (.func 99) [] [])) [(.t 8), (.t 9)],
    .op (some 7) none (.mv (.t 10))]
def c84r2 : List AStm := [.op (some 11) none (.mv (.t 7)),
    .op (some 12) none (.bin .geq (.t 11) (.c (.int .i64 0)))]
def c84r3 : List AStm := [.op (some 13) none (.mv (.t 0)),
    .op (some 14) none (.mv (.t 7)),
    .op (some 15) none (.sstr (.t 13) none (some (.t 14))),
    .op (some 16) none (.mv (.t 0)),
    .op (some 17) none (.mv (.t 7)),
    .op (some 18) none (.mv (.t 1)),
    .op (some 19) none (.len true (.t 18)),
    .op (some 20) none (.bin .add (.t 17) (.t 19)),
    .op (some 21) none (.sstr (.t 16) (some (.t 20)) none),
    .op (some 4) none (.mv (.t 15)),
    .op (some 5) none (.mv (.t 21)),
    .op (some 6) none (.mv (.c (.bool true)))]
def c84r4 : List AStm := []
def c84r5 : List AStm := [.op (some 22) none (.mv (.t 0)),
    .op (some 4) none (.mv (.t 22)),
    .op (some 5) none (.mv (.c (.str (bs [])))),
    .op (some 6) none (.mv (.c (.bool false)))]
def c84 : CF := ⟨.seq (.reg c84r0) (.seq (.seq (.reg c84r1) (.seq (.reg c84r2) (.cond (.t 12) (.seq (.dreg c84r3 c84r4) (.ret)) (.skip)))) (.seq (.reg c84r5) (.ret))), [.tmp 4, .tmp 5, .tmp 6], 23⟩
theorem cf84 : cfun Try.prog 84 = some c84 := by kernel_rfl

/-! ### weighbridge/dotted.number, params 1 -/
def c85r0 : List AStm := [.op (some 2) none (.mv (.c (.int .i64 0))),
    .op (some 3) none (.mv (.c (.str (bs [])))),
    .op (some 4) none (.mv (.c (.bool false)))]
def c85r1 : List AStm := [.op (some 5) none (.mv (.c (.int .i64 0))),
    .op (some 6) none (.mv (.c (.int .i64 0)))]
def c85r2 : List AStm := [.op (some 7) none (.mv (.t 6)),
    .op (some 8) none (.mv (.t 0)),
    .op (some 9) none (.len true (.t 8)),
    .op (some 10) none (.bin .lss (.t 7) (.t 9)),
    .op (some 11) none (.mv (.t 10)),
    .op (some 12) (some (11, true)) (.mv (.t 0)),
    .op (some 13) (some (11, true)) (.mv (.t 6)),
    .op (some 14) (some (11, true)) (.ixstr (.t 12) (.t 13)),
    .op (some 15) (some (11, true)) (.bin .geq (.t 14) (.c (.int .u8 48))),
    .op (some 16) none (.pick (.t 11) (.t 15) (.c (.bool false))),
    .op (some 17) none (.mv (.t 16)),
    .op (some 18) (some (17, true)) (.mv (.t 0)),
    .op (some 19) (some (17, true)) (.mv (.t 6)),
    .op (some 20) (some (17, true)) (.ixstr (.t 18) (.t 19)),
    .op (some 21) (some (17, true)) (.bin .leq (.t 20) (.c (.int .u8 57))),
    .op (some 22) none (.pick (.t 17) (.t 21) (.c (.bool false)))]
def c85r3 : List AStm := [.op (some 23) none (.mv (.t 6)),
    .op (some 24) none (.bin .eql (.t 23) (.c (.int .i64 3))),
    .op (some 25) none (.mv (.t 24)),
    .op (some 26) (some (25, false)) (.mv (.t 6)),
    .op (some 27) (some (25, false)) (.bin .gtr (.t 26) (.c (.int .i64 0))),
    .op (some 28) (some (25, false)) (.mv (.t 27)),
    .op (some 29) (some (28, true)) (.mv (.t 0)),
    .op (some 30) (some (28, true)) (.ixstr (.t 29) (.c (.int .i64 0))),
    .op (some 31) (some (28, true)) (.bin .eql (.t 30) (.c (.int .u8 48))),
    .op (some 32) (some (25, false)) (.pick (.t 28) (.t 31) (.c (.bool false))),
    .op (some 33) none (.pick (.t 25) (.c (.bool true)) (.t 32))]
def c85r4 : List AStm := [.op (some 34) none (.mv (.t 0)),
    .op (some 2) none (.mv (.c (.int .i64 0))),
    .op (some 3) none (.mv (.t 34)),
    .op (some 4) none (.mv (.c (.bool false)))]
def c85r5 : List AStm := [.op (some 35) none (.mv (.t 5)),
    .op (some 36) none (.bin .mul (.c (.int .i64 10)) (.t 35)),
    .op (some 37) none (.mv (.t 0)),
    .op (some 38) none (.mv (.t 6)),
    .op (some 39) none (.ixstr (.t 37) (.t 38)),
    .op (some 40) none (.bin .sub (.t 39) (.c (.int .u8 48))),
    .op (some 41) none (.conv .i64 (.t 40)),
    .op (some 42) none (.bin .add (.t 36) (.t 41)),
    .op (some 5) none (.mv (.t 42))]
def c85r6 : List AStm := [.op (some 43) none (.mv (.t 6)),
    .op (some 44) none (.bin .add (.t 43) (.c (.int .i64 1))),
    .op (some 6) none (.mv (.t 44))]
def c85l7 : AC := .seq (.seq (.reg c85r2) (.cond (.t 22) (.skip) (.exit 0))) (.block 1 (.seq (.seq (.reg c85r3) (.cond (.t 33) (.seq (.reg c85r4) (.ret)) (.skip))) (.seq (.reg c85r5) (.reg c85r6))))
def c85r8 : List AStm := [.op (some 45) none (.mv (.t 5)),
    .op (some 46) none (.mv (.t 0)),
    .op (some 47) none (.mv (.t 6)),
    .op (some 48) none (.sstr (.t 46) (some (.t 47)) none),
    .op (some 49) none (.mv (.t 6)),
    .op (some 50) none (.bin .gtr (.t 49) (.c (.int .i64 0))),
    .op (some 2) none (.mv (.t 45)),
    .op (some 3) none (.mv (.t 48)),
    .op (some 4) none (.mv (.t 50))]
def c85r9 : List AStm := []
def c85 : CF := ⟨.seq (.reg c85r0) (.seq (.reg c85r1) (.seq (.block 0 (.loop c85l7)) (.seq (.dreg c85r8 c85r9) (.ret)))), [.tmp 2, .tmp 3, .tmp 4], 51⟩
theorem cf85 : cfun Try.prog 85 = some c85 := by kernel_rfl

/-! ### (*weighbridge/colons.reader).all, params 1 -/
def c86r0 : List AStm := [.op (some 2) none (.mv (.c (.bool false)))]
def c86r1 : List AStm := [.op (some 3) none (.mv (.t 0)),
    .call (some 4) none (.c (.fn (.func 100) [] [])) [(.t 3), (.c (.str (bs [58, 58])))]]
def c86r2 : List AStm := [.op (some 5) none (.mv (.t 0)),
    .op (some 6) none (.nilchk (.t 5)),
    .op (some 7) none (.faddr 10 (.t 6)),
    .op none none (.store 1 (.t 7) (.c (.int .i64 0)))]
def c86r3 : List AStm := [.op (some 8) none (.mv (.t 0)),
    .op (some 9) none (.nilchk (.t 8)),
    .op (some 10) none (.faddr 0 (.t 9)),
    .op (some 11) none (.load none (.t 10)),
    .op (some 12) none (.bin .neq (.t 11) (.c (.str (bs [])))),
    .op (some 13) none (.mv (.t 12)),
    .op (some 14) (some (13, false)) (.mv (.t 0)),
    .op (some 15) (some (13, false)) (.nilchk (.t 14)),
    .op (some 16) (some (13, false)) (.faddr 9 (.t 15)),
    .op (some 17) (some (13, false)) (.load none (.t 16)),
    .op (some 18) (some (13, false)) (.bin .eql (.t 17) (.c (.int .i64 0))),
    .op (some 19) (some (13, false)) (.mv (.t 18)),
    .op (some 20) (some (19, true)) (.mv (.t 0)),
    .op (some 21) (some (19, true)) (.nilchk (.t 20)),
    .op (some 22) (some (19, true)) (.faddr 10 (.t 21)),
    .op (some 23) (some (19, true)) (.load none (.t 22)),
    .op (some 24) (some (19, true)) (.bin .lss (.t 23) (.c (.int .i64 0))),
    .op (some 25) (some (13, false)) (.pick (.t 19) (.t 24) (.c (.bool false))),
    .op (some 26) none (.pick (.t 13) (.c (.bool true)) (.t 25))]
def c86r4 : List AStm := [.op (some 27) none (.mv (.t 0)),
    .call (some 28) none (.c (.fn (.func 101) [] [])) [(.t 27)],
    .op (some 29) none (.un .not (.t 28)),
    .op (some 30) none (.mv (.t 29)),
    .op (some 31) (some (30, true)) (.mv (.t 0)),
    .call (some 32) (some (30, true)) (.c (.fn (.func 102) [] [])) [(.t 31)],
    .op (some 33) (some (30, true)) (.un .not (.t 32)),
    .op (some 34) none (.pick (.t 30) (.t 33) (.c (.bool false)))]
def c86r5 : List AStm := [.op (some 2) none (.mv (.c (.bool false)))]
def c86r6 : List AStm := [.op (some 36) none (.mv (.t 0)),
    .op (some 37) none (.nilchk (.t 36)),
    .op (some 38) none (.faddr 0 (.t 37)),
    .op (some 39) none (.load none (.t 38)),
    .op (some 40) none (.bin .eql (.t 39) (.c (.str (bs [])))),
    .op (some 35) none (.mv (.t 40))]
def c86r7 : List AStm := [.op (some 42) none (.mv (.t 0)),
    .op (some 43) none (.nilchk (.t 42)),
    .op (some 44) none (.faddr 10 (.t 43)),
    .op (some 45) none (.load none (.t 44)),
    .op (some 46) none (.bin .lss (.t 45) (.c (.int .i64 0))),
    .op (some 47) none (.mv (.t 46)),
    .op (some 48) (some (47, true)) (.mv (.t 0)),
    .call (some 49) (some (47, true)) (.c (.fn (.func 100) [] [])) [(.t 48), (.c (.str (bs [58, 58])))],
    .op (some 50) none (.pick (.t 47) (.t 49) (.c (.bool false))),
    .op (some 41) none (.mv (.t 50))]
def c86r8 : List AStm := [.op (some 51) none (.mv (.t 0)),
    .op (some 52) none (.mv (.t 0)),
    .op (some 53) none (.nilchk (.t 52)),
    .op (some 54) none (.faddr 9 (.t 53)),
    .op (some 55) none (.load none (.t 54)),
    .op (some 56) none (.nilchk (.t 51)),
    .op (some 57) none (.faddr 10 (.t 56)),
    .op none none (.store 1 (.t 57) (.t 55))]
def c86r9 : List AStm := [.op (some 59) none (.mv (.t 0)),
    .call (some 60) none (.c (.fn (.func 100) [] [])) [(.t 59), (.c (.str (bs [58])))],
    .op (some 61) none (.un .not (.t 60)),
    .op (some 62) none (.mv (.t 61)),
    .op (some 63) (some (62, false)) (.mv (.t 0)),
    .op (some 64) (some (62, false)) (.nilchk (.t 63)),
    .op (some 65) (some (62, false)) (.faddr 0 (.t 64)),
    .op (some 66) (some (62, false)) (.load none (.t 65)),
    .op (some 67) (some (62, false)) (.bin .eql (.t 66) (.c (.str (bs [])))),
    .op (some 68) none (.pick (.t 62) (.c (.bool true)) (.t 67)),
    .op (some 58) none (.mv (.t 68))]
def c86r10 : List AStm := [.op (some 2) none (.mv (.c (.bool false)))]
def c86l11 : AC := .seq (.seq (.reg c86r3) (.cond (.t 26) (.skip) (.exit 0))) (.block 1 (.seq (.seq (.reg c86r4) (.cond (.t 34) (.seq (.reg c86r5) (.ret)) (.skip))) (.block 2 (.seq (.reg c86r6) (.cond (.t 35) (.skip) (.seq (.reg c86r7) (.cond (.t 41) (.reg c86r8) (.seq (.reg c86r9) (.cond (.t 58) (.seq (.reg c86r10) (.ret)) (.skip))))))))))
def c86r12 : List AStm := [.op (some 69) none (.mv (.t 0)),
    .op (some 70) none (.nilchk (.t 69)),
    .op (some 71) none (.faddr 10 (.t 70)),
    .op (some 72) none (.load none (.t 71)),
    .op (some 73) none (.bin .geq (.t 72) (.c (.int .i64 0))),
    .op (some 74) none (.mv (.t 73)),
    .op (some 75) (some (74, true)) (.mv (.t 0)),
    .op (some 76) (some (74, true)) (.nilchk (.t 75)),
    .op (some 77) (some (74, true)) (.faddr 9 (.t 76)),
    .op (some 78) (some (74, true)) (.load none (.t 77)),
    .op (some 79) (some (74, true)) (.bin .lss (.t 78) (.c (.int .i64 8))),
    .op (some 80) none (.pick (.t 74) (.t 79) (.c (.bool false))),
    .op (some 81) none (.mv (.t 80)),
    .op (some 82) (some (81, false)) (.mv (.t 0)),
    .op (some 83) (some (81, false)) (.nilchk (.t 82)),
    .op (some 84) (some (81, false)) (.faddr 10 (.t 83)),
    .op (some 85) (some (81, false)) (.load none (.t 84)),
    .op (some 86) (some (81, false)) (.bin .lss (.t 85) (.c (.int .i64 0))),
    .op (some 87) (some (81, false)) (.mv (.t 86)),
    .op (some 88) (some (87, true)) (.mv (.t 0)),
    .op (some 89) (some (87, true)) (.nilchk (.t 88)),
    .op (some 90) (some (87, true)) (.faddr 9 (.t 89)),
    .op (some 91) (some (87, true)) (.load none (.t 90)),
    .op (some 92) (some (87, true)) (.bin .eql (.t 91) (.c (.int .i64 8))),
    .op (some 93) (some (81, false)) (.pick (.t 87) (.t 92) (.c (.bool false))),
    .op (some 94) none (.pick (.t 81) (.c (.bool true)) (.t 93)),
    .op (some 2) none (.mv (.t 94))]
def c86 : CF := ⟨.seq (.reg c86r0) (.seq (.seq (.reg c86r1) (.cond (.t 4) (.reg c86r2) (.skip))) (.seq (.block 0 (.loop c86l11)) (.seq (.reg c86r12) (.ret)))), [.tmp 2], 95⟩
theorem cf86 : cfun Try.prog 86 = some c86 := by kernel_rfl

/-! ### weighbridge/colons.gap, params 1 -/
def c87r0 : List AStm := [.op (some 1) none (.box (.t 0)),
    .op (some 2) none (.mv (.c (.int .i64 0))),
    .op (some 3) none (.mv (.c (.int .i64 0)))]
def c87r1 : List AStm := [.op (some 4) none (.mv (.c (.int .i64 8))),
    .op (some 5) none (.mv (.c (.int .i64 1)))]
def c87r2 : List AStm := [.op (some 6) none (.mv (.c (.int .i64 0)))]
def c87r3 : List AStm := [.op (some 8) none (.mv (.t 6)),
    .op (some 9) none (.bin .lss (.t 8) (.c (.int .i64 8)))]
def c87r4 : List AStm := [.op (some 12) none (.mv (.t 6)),
    .op (some 7) none (.mv (.t 12))]
def c87r5 : List AStm := [.op (some 13) none (.mv (.t 7)),
    .op (some 14) none (.bin .lss (.t 13) (.c (.int .i64 8))),
    .op (some 15) none (.mv (.t 14)),
    .op (some 16) (some (15, true)) (.load (some 16) (.t 1)),
    .op (some 17) (some (15, true)) (.mv (.t 7)),
    .call (some 18) (some (15, true)) (.c (.fn (.func 89) [] [])) [(.t 16), (.t 17)],
    .op (some 19) (some (15, true)) (.bin .eql (.t 18) (.c (.int .u16 0))),
    .op (some 20) none (.pick (.t 15) (.t 19) (.c (.bool false)))]
def c87r6 : List AStm := [.op (some 21) none (.mv (.t 7)),
    .op (some 22) none (.bin .add (.t 21) (.c (.int .i64 1))),
    .op (some 7) none (.mv (.t 22))]
def c87l7 : AC := .seq (.seq (.reg c87r5) (.cond (.t 20) (.skip) (.exit 2))) (.block 3 (.reg c87r6))
def c87r8 : List AStm := [.op (some 23) none (.mv (.t 7)),
    .op (some 24) none (.mv (.t 6)),
    .op (some 25) none (.bin .sub (.t 23) (.t 24)),
    .op (some 26) none (.mv (.t 5)),
    .op (some 27) none (.bin .gtr (.t 25) (.t 26))]
def c87r9 : List AStm := [.op (some 28) none (.mv (.t 6)),
    .op (some 29) none (.mv (.t 7)),
    .op (some 30) none (.mv (.t 6)),
    .op (some 31) none (.bin .sub (.t 29) (.t 30)),
    .op (some 4) none (.mv (.t 28)),
    .op (some 5) none (.mv (.t 31))]
def c87r10 : List AStm := [.op (some 32) none (.mv (.t 6)),
    .op (some 33) none (.mv (.t 7)),
    .op (some 34) none (.bin .sub (.t 33) (.c (.int .i64 1))),
    .op (some 35) none (.mnx true (.t 32) (.t 34)),
    .op (some 6) none (.mv (.t 35))]
def c87r11 : List AStm := [.op (some 10) none (.mv (.t 6)),
    .op (some 11) none (.bin .add (.t 10) (.c (.int .i64 1))),
    .op (some 6) none (.mv (.t 11))]
def c87l12 : AC := .seq (.seq (.reg c87r3) (.cond (.t 9) (.skip) (.exit 0))) (.seq (.block 1 (.seq (.reg c87r4) (.seq (.block 2 (.loop c87l7)) (.seq (.seq (.reg c87r8) (.cond (.t 27) (.reg c87r9) (.skip))) (.reg c87r10))))) (.reg c87r11))
def c87r13 : List AStm := [.op (some 36) none (.mv (.t 4)),
    .op (some 37) none (.bin .eql (.t 36) (.c (.int .i64 8)))]
def c87r14 : List AStm := [.op (some 2) none (.mv (.c (.int .i64 8))),
    .op (some 3) none (.mv (.c (.int .i64 0)))]
def c87r15 : List AStm := [.op (some 38) none (.mv (.t 4)),
    .op (some 39) none (.mv (.t 5)),
    .op (some 2) none (.mv (.t 38)),
    .op (some 3) none (.mv (.t 39))]
def c87 : CF := ⟨.seq (.reg c87r0) (.seq (.reg c87r1) (.seq (.seq (.reg c87r2) (.block 0 (.loop c87l12))) (.seq (.seq (.reg c87r13) (.cond (.t 37) (.seq (.reg c87r14) (.ret)) (.skip))) (.seq (.reg c87r15) (.ret))))), [.tmp 2, .tmp 3], 40⟩
theorem cf87 : cfun Try.prog 87 = some c87 := by kernel_rfl

/-! ### weighbridge/colons.lay, params 2 -/
def c88r0 : List AStm := [.op (some 4) none (.mv (.c .nils))]
def c88r1 : List AStm := [.op (some 5) none (.mv (.t 1)),
    .op (some 6) none (.bin .geq (.t 5) (.c (.int .u16 16)))]
def c88r2 : List AStm := [.op (some 7) none (.mv (.t 0)),
    .op (some 8) none (.mv (.t 1)),
    .op (some 9) none (.bin .quo (.t 8) (.c (.int .u16 16))),
    .call (some 10) none (.c (.fn (.func 88) [] [])) [(.t 7), (.t 9)],
    .op (some 0) none (.mv (.t 10))]
def c88r3 : List AStm := [.op (some 11) none (.mv (.t 0)),
    .op (some 12) none (.mv (.t 1)),
    .op (some 13) none (.bin .rem (.t 12) (.c (.int .u16 16))),
    .op (some 14) none (.ixstr (.c (.str (bs [48, 49, 50, 51, 52, 53, 54, 55, 56, 57, 97, 98, 99, 100, 101, 102]))) (.t 13)),
    .op (some 15) none (.bslice 1 [(.int .u8 0)] 1 [(0, 1, (.t 14))]),
    .op (some 16) none (.append false 1 1 (.t 11) (.t 15)),
    .op (some 4) none (.mv (.t 16))]
def c88 : CF := ⟨.seq (.reg c88r0) (.seq (.seq (.reg c88r1) (.cond (.t 6) (.reg c88r2) (.skip))) (.seq (.reg c88r3) (.ret))), [.tmp 4], 17⟩
theorem cf88 : cfun Try.prog 88 = some c88 := by kernel_rfl

/-! ### weighbridge/colons.Group, params 2 -/
def c89r0 : List AStm := [.op (some 2) none (.box (.t 0)),
    .op (some 4) none (.mv (.c (.int .u16 0)))]
def c89r1 : List AStm := [.op (some 5) none (.mv (.t 1)),
    .op (some 6) none (.bin .lss (.t 5) (.c (.int .i64 0))),
    .op (some 7) none (.mv (.t 6)),
    .op (some 8) (some (7, false)) (.mv (.t 1)),
    .op (some 9) (some (7, false)) (.bin .geq (.t 8) (.c (.int .i64 8))),
    .op (some 10) none (.pick (.t 7) (.c (.bool true)) (.t 9))]
def c89r2 : List AStm := [.op (some 4) none (.mv (.c (.int .u16 0)))]
def c89r3 : List AStm := [.op (some 11) none (.mv (.t 1)),
    .op (some 12) none (.bin .mul (.c (.int .i64 2)) (.t 11)),
    .op (some 13) none (.ixa 16 1 (.t 2) (.t 12)),
    .op (some 14) none (.load none (.t 13)),
    .op (some 15) none (.conv .u16 (.t 14)),
    .op (some 16) none (.bin .shl (.t 15) (.c (.int .u64 8))),
    .op (some 17) none (.mv (.t 1)),
    .op (some 18) none (.bin .mul (.c (.int .i64 2)) (.t 17)),
    .op (some 19) none (.bin .add (.t 18) (.c (.int .i64 1))),
    .op (some 20) none (.ixa 16 1 (.t 2) (.t 19)),
    .op (some 21) none (.load none (.t 20)),
    .op (some 22) none (.conv .u16 (.t 21)),
    .op (some 23) none (.bin .or (.t 16) (.t 22)),
    .op (some 4) none (.mv (.t 23))]
def c89r4 : List AStm := []
def c89 : CF := ⟨.seq (.reg c89r0) (.seq (.seq (.reg c89r1) (.cond (.t 10) (.seq (.reg c89r2) (.ret)) (.skip))) (.seq (.dreg c89r3 c89r4) (.ret))), [.tmp 4], 24⟩
theorem cf89 : cfun Try.prog 89 = some c89 := by kernel_rfl

/-! ### weighbridge/dotted.lay, params 2 -/
def c90r0 : List AStm := [.op (some 4) none (.mv (.c .nils))]
def c90r1 : List AStm := [.op (some 5) none (.mv (.t 1)),
    .op (some 6) none (.bin .geq (.t 5) (.c (.int .u8 10)))]
def c90r2 : List AStm := [.op (some 7) none (.mv (.t 0)),
    .op (some 8) none (.mv (.t 1)),
    .op (some 9) none (.bin .quo (.t 8) (.c (.int .u8 10))),
    .call (some 10) none (.c (.fn (.func 90) [] [])) [(.t 7), (.t 9)],
    .op (some 0) none (.mv (.t 10))]
def c90r3 : List AStm := [.op (some 11) none (.mv (.t 0)),
    .op (some 12) none (.mv (.t 1)),
    .op (some 13) none (.bin .rem (.t 12) (.c (.int .u8 10))),
    .op (some 14) none (.bin .add (.c (.int .u8 48)) (.t 13)),
    .op (some 15) none (.bslice 1 [(.int .u8 0)] 1 [(0, 1, (.t 14))]),
    .op (some 16) none (.append false 1 1 (.t 11) (.t 15)),
    .op (some 4) none (.mv (.t 16))]
def c90 : CF := ⟨.seq (.reg c90r0) (.seq (.seq (.reg c90r1) (.cond (.t 6) (.reg c90r2) (.skip))) (.seq (.reg c90r3) (.ret))), [.tmp 4], 17⟩
theorem cf90 : cfun Try.prog 90 = some c90 := by kernel_rfl

/-! ### weighbridge/wide.Div, params 2 -/
def c91r0 : List AStm := [.op (some 2) none (.box (.t 0)),
    .op (some 4) none (.alloc [(.int .u64 0), (.int .u64 0)]),
    .op (some 5) none (.mv (.c (.int .u64 0)))]
def c91r1 : List AStm := [.op (some 9) none (.mv (.t 1)),
    .op (some 10) none (.bin .eql (.t 9) (.c (.int .u64 0)))]
def c91r2 : List AStm := [.op (some 11) none (.build [(.int .u64 0), (.int .u64 0)] []),
    .op none none (.store 2 (.t 4) (.t 11)),
    .op (some 5) none (.mv (.c (.int .u64 0)))]
def c91r3 : List AStm := [.op (some 12) none (.faddr 0 (.t 2)),
    .op (some 13) none (.load none (.t 12)),
    .op (some 14) none (.mv (.t 1)),
    .op (some 15) none (.bin .quo (.t 13) (.t 14)),
    .op (some 16) none (.build [(.int .u64 0), (.int .u64 0)] [(0, 1, (.t 15))]),
    .op (some 6) none (.alloc [(.int .u64 0), (.int .u64 0)]),
    .op none none (.store 2 (.t 6) (.t 16))]
def c91r4 : List AStm := [.op (some 17) none (.faddr 0 (.t 2)),
    .op (some 18) none (.load none (.t 17)),
    .op (some 19) none (.mv (.t 1)),
    .op (some 20) none (.bin .rem (.t 18) (.t 19)),
    .op (some 21) none (.build [(.int .u64 0), (.int .u64 0)] [(1, 1, (.t 20))]),
    .op (some 7) none (.alloc [(.int .u64 0), (.int .u64 0)]),
    .op none none (.store 2 (.t 7) (.t 21))]
def c91r5 : List AStm := [.op (some 8) none (.mv (.c (.int .i64 63)))]
def c91r6 : List AStm := [.op (some 22) none (.mv (.t 8)),
    .op (some 23) none (.bin .geq (.t 22) (.c (.int .i64 0)))]
def c91r7 : List AStm := [.op (some 26) none (.load (some 2) (.t 7)),
    .op (some 27) none (.faddr 1 (.t 2)),
    .op (some 28) none (.load none (.t 27)),
    .op (some 29) none (.mv (.t 8)),
    .op (some 30) none (.conv .u64 (.t 29)),
    .op (some 31) none (.bin .shr (.t 28) (.t 30)),
    .op (some 32) none (.bin .and (.t 31) (.c (.int .u64 1))),
    .call (some 33) none (.c (.fn (.func 103) [] [])) [(.t 26), (.t 32)],
    .op none none (.store 2 (.t 7) (.t 33))]
def c91r8 : List AStm := [.op (some 34) none (.faddr 1 (.t 6)),
    .op (some 35) none (.load none (.t 34)),
    .op (some 36) none (.bin .shl (.t 35) (.c (.int .u64 1))),
    .op (some 37) none (.faddr 1 (.t 6)),
    .op none none (.store 1 (.t 37) (.t 36))]
def c91r9 : List AStm := []
def c91r10 : List AStm := [.op (some 38) none (.load (some 2) (.t 7)),
    .op (some 39) none (.mv (.t 1)),
    .callG (some 40) none (.c (.fn (.func 70) [] [])) [(.t 39)],
    .call (some 41) none (.c (.fn (.func 104) [] [])) [(.t 38), (.t 40)],
    .op (some 42) none (.un .not (.t 41))]
def c91r11 : List AStm := [.op (some 44) none (.load (some 2) (.t 7)),
    .op (some 45) none (.mv (.t 1)),
    .call (some 46) none (.c (.fn (.func 70) [] [])) [(.t 45)],
    .call (some 47) none (.c (.fn (.func 105) [] [])) [(.t 44), (.t 46)],
    .op (some 43) none (.mv (.t 47)),
    .op (some 48) none (.ext (.t 43) 0),
    .op (some 49) none (.ext (.t 43) 1),
    .op none none (.store 2 (.t 7) (.t 48))]
def c91r12 : List AStm := []
def c91r13 : List AStm := [.op (some 50) none (.faddr 1 (.t 6)),
    .op (some 51) none (.load none (.t 50)),
    .op (some 52) none (.bin .or (.t 51) (.c (.int .u64 1))),
    .op (some 53) none (.faddr 1 (.t 6)),
    .op none none (.store 1 (.t 53) (.t 52))]
def c91r14 : List AStm := [.op (some 24) none (.mv (.t 8)),
    .op (some 25) none (.bin .sub (.t 24) (.c (.int .i64 1))),
    .op (some 8) none (.mv (.t 25))]
def c91l15 : AC := .seq (.seq (.reg c91r6) (.cond (.t 23) (.skip) (.exit 0))) (.seq (.block 1 (.seq (.reg c91r7) (.seq (.reg c91r8) (.seq (.dreg c91r9 c91r10) (.cond (.t 42) (.seq (.dreg c91r11 c91r12) (.reg c91r13)) (.skip)))))) (.reg c91r14))
def c91r16 : List AStm := [.op (some 54) none (.load (some 2) (.t 6)),
    .op (some 55) none (.faddr 1 (.t 7)),
    .op (some 56) none (.load none (.t 55)),
    .op none none (.store 2 (.t 4) (.t 54)),
    .chk 55 none (.faddr 1 (.t 7)),
    .chk 56 none (.load none (.t 55)),
    .op (some 5) none (.mv (.t 56))]
def c91r17 : List AStm := []
def c91 : CF := ⟨.seq (.reg c91r0) (.seq (.seq (.reg c91r1) (.cond (.t 10) (.seq (.reg c91r2) (.ret)) (.skip))) (.seq (.reg c91r3) (.seq (.reg c91r4) (.seq (.seq (.reg c91r5) (.block 0 (.loop c91l15))) (.seq (.dreg c91r16 c91r17) (.ret)))))), [.cell 4 (some 2), .tmp 5], 57⟩
theorem cf91 : cfun Try.prog 91 = some c91 := by kernel_rfl

/-! ### slices.Reverse[[]byte,byte], params 1 -/
def c92r0 : List AStm := [.op (some 4) none (.mv (.t 0)),
    .op (some 5) none (.len false (.t 4)),
    .op (some 6) none (.bin .sub (.t 5) (.c (.int .i64 1))),
    .op (some 2) none (.mv (.c (.int .i64 0))),
    .op (some 3) none (.mv (.t 6))]
def c92r1 : List AStm := [.op (some 7) none (.mv (.t 2)),
    .op (some 8) none (.mv (.t 3)),
    .op (some 9) none (.bin .lss (.t 7) (.t 8))]
def c92r2 : List AStm := [.op (some 14) none (.mv (.t 0)),
    .op (some 15) none (.mv (.t 2)),
    .op (some 16) none (.mv (.t 0)),
    .op (some 17) none (.mv (.t 3)),
    .op (some 18) none (.mv (.t 0)),
    .op (some 19) none (.mv (.t 3)),
    .op (some 20) none (.ixs 1 (.t 18) (.t 19)),
    .op (some 21) none (.load none (.t 20)),
    .op (some 22) none (.mv (.t 0)),
    .op (some 23) none (.mv (.t 2)),
    .op (some 24) none (.ixs 1 (.t 22) (.t 23)),
    .op (some 25) none (.load none (.t 24)),
    .op (some 26) none (.ixs 1 (.t 14) (.t 15)),
    .op none none (.store 1 (.t 26) (.t 21)),
    .op (some 27) none (.ixs 1 (.t 16) (.t 17)),
    .op none none (.store 1 (.t 27) (.t 25))]
def c92r3 : List AStm := []
def c92r4 : List AStm := [.op (some 10) none (.mv (.t 2)),
    .op (some 11) none (.bin .add (.t 10) (.c (.int .i64 1))),
    .op (some 12) none (.mv (.t 3)),
    .op (some 13) none (.bin .sub (.t 12) (.c (.int .i64 1))),
    .op (some 2) none (.mv (.t 11)),
    .op (some 3) none (.mv (.t 13))]
def c92l5 : AC := .seq (.seq (.reg c92r1) (.cond (.t 9) (.skip) (.exit 0))) (.seq (.block 1 (.dreg c92r2 c92r3)) (.reg c92r4))
def c92 : CF := ⟨.seq (.reg c92r0) (.block 0 (.loop c92l5)), [], 28⟩
theorem cf92 : cfun Try.prog 92 = some c92 := by kernel_rfl

/-! ### internal/stringslite.Index, params 2 -/
def c99r0 : List AStm := [.op (some 4) none (.mv (.c (.int .i64 0)))]
def c99r1 : List AStm := [.op (some 14) none (.mv (.t 1)),
    .op (some 15) none (.len true (.t 14)),
    .op (some 5) none (.mv (.t 15))]
def c99r2 : List AStm := [.op (some 17) none (.mv (.t 5)),
    .op (some 18) none (.bin .eql (.t 17) (.c (.int .i64 0))),
    .op (some 19) none (.mv (.t 18)),
    .op (some 20) (some (19, false)) (.mv (.t 1)),
    .op (some 21) (some (19, false)) (.mv (.t 0)),
    .op (some 22) (some (19, false)) (.bin .eql (.t 20) (.t 21)),
    .op (some 23) none (.pick (.t 19) (.c (.bool true)) (.t 22)),
    .op (some 16) none (.mv (.t 23))]
def c99r3 : List AStm := [.op (some 4) none (.mv (.c (.int .i64 0)))]
def c99r4 : List AStm := [.op (some 25) none (.mv (.t 5)),
    .op (some 26) none (.bin .eql (.t 25) (.c (.int .i64 1))),
    .op (some 24) none (.mv (.t 26))]
def c99r5 : List AStm := [.op (some 27) none (.mv (.t 0)),
    .op (some 28) none (.mv (.t 1)),
    .op (some 29) none (.ixstr (.t 28) (.c (.int .i64 0))),
    .call (some 30) none (.c (.fn (.func 107) [] [])) [(.t 27), (.t 29)],
    .op (some 4) none (.mv (.t 30))]
def c99r6 : List AStm := [.op (some 32) none (.mv (.t 5)),
    .op (some 33) none (.mv (.t 0)),
    .op (some 34) none (.len true (.t 33)),
    .op (some 35) none (.bin .geq (.t 32) (.t 34)),
    .op (some 31) none (.mv (.t 35))]
def c99r7 : List AStm := [.op (some 4) none (.mv (.c (.int .i64 (-1))))]
def c99r8 : List AStm := [.op (some 45) none (.mv (.t 0)),
    .op (some 46) none (.mv (.t 1)),
    .call (some 47) none (.c (.fn (.func 108) [] [])) [(.t 45), (.t 46)],
    .op (some 4) none (.mv (.t 47))]
def c99r9 : List AStm := [.op (some 48) none (.mv (.t 1)),
    .op (some 49) none (.ixstr (.t 48) (.c (.int .i64 0))),
    .op (some 6) none (.mv (.t 49))]
def c99r10 : List AStm := [.op (some 50) none (.mv (.t 1)),
    .op (some 51) none (.ixstr (.t 50) (.c (.int .i64 1))),
    .op (some 7) none (.mv (.t 51))]
def c99r11 : List AStm := [.op (some 8) none (.mv (.c (.int .i64 0)))]
def c99r12 : List AStm := [.op (some 52) none (.mv (.t 0)),
    .op (some 53) none (.len true (.t 52)),
    .op (some 54) none (.mv (.t 5)),
    .op (some 55) none (.bin .sub (.t 53) (.t 54)),
    .op (some 56) none (.bin .add (.t 55) (.c (.int .i64 1))),
    .op (some 9) none (.mv (.t 56))]
def c99r13 : List AStm := [.op (some 10) none (.mv (.c (.int .i64 0)))]
def c99r14 : List AStm := [.op (some 57) none (.mv (.t 8)),
    .op (some 58) none (.mv (.t 9)),
    .op (some 59) none (.bin .lss (.t 57) (.t 58))]
def c99r15 : List AStm := [.op (some 60) none (.mv (.t 0)),
    .op (some 61) none (.mv (.t 8)),
    .op (some 62) none (.ixstr (.t 60) (.t 61)),
    .op (some 63) none (.mv (.t 6)),
    .op (some 64) none (.bin .neq (.t 62) (.t 63))]
def c99r16 : List AStm := [.op (some 65) none (.mv (.t 0)),
    .op (some 66) none (.mv (.t 8)),
    .op (some 67) none (.bin .add (.t 66) (.c (.int .i64 1))),
    .op (some 68) none (.mv (.t 9)),
    .op (some 69) none (.sstr (.t 65) (some (.t 67)) (some (.t 68))),
    .op (some 70) none (.mv (.t 6)),
    .call (some 71) none (.c (.fn (.func 107) [] [])) [(.t 69), (.t 70)],
    .op (some 11) none (.mv (.t 71))]
def c99r17 : List AStm := [.op (some 72) none (.mv (.t 11)),
    .op (some 73) none (.bin .lss (.t 72) (.c (.int .i64 0)))]
def c99r18 : List AStm := [.op (some 4) none (.mv (.c (.int .i64 (-1))))]
def c99r19 : List AStm := [.op (some 74) none (.mv (.t 8)),
    .op (some 75) none (.mv (.t 11)),
    .op (some 76) none (.bin .add (.t 75) (.c (.int .i64 1))),
    .op (some 77) none (.bin .add (.t 74) (.t 76)),
    .op (some 8) none (.mv (.t 77))]
def c99r20 : List AStm := [.op (some 78) none (.mv (.t 0)),
    .op (some 79) none (.mv (.t 8)),
    .op (some 80) none (.bin .add (.t 79) (.c (.int .i64 1))),
    .op (some 81) none (.ixstr (.t 78) (.t 80)),
    .op (some 82) none (.mv (.t 7)),
    .op (some 83) none (.bin .eql (.t 81) (.t 82)),
    .op (some 84) none (.mv (.t 83)),
    .op (some 85) (some (84, true)) (.mv (.t 0)),
    .op (some 86) (some (84, true)) (.mv (.t 8)),
    .op (some 87) (some (84, true)) (.mv (.t 8)),
    .op (some 88) (some (84, true)) (.mv (.t 5)),
    .op (some 89) (some (84, true)) (.bin .add (.t 87) (.t 88)),
    .op (some 90) (some (84, true)) (.sstr (.t 85) (some (.t 86)) (some (.t 89))),
    .op (some 91) (some (84, true)) (.mv (.t 1)),
    .op (some 92) (some (84, true)) (.bin .eql (.t 90) (.t 91)),
    .op (some 93) none (.pick (.t 84) (.t 92) (.c (.bool false)))]
def c99r21 : List AStm := [.op (some 94) none (.mv (.t 8)),
    .op (some 4) none (.mv (.t 94))]
def c99r22 : List AStm := [.op (some 95) none (.mv (.t 8)),
    .op (some 96) none (.bin .add (.t 95) (.c (.int .i64 1))),
    .op (some 8) none (.mv (.t 96))]
def c99r23 : List AStm := [.op (some 97) none (.mv (.t 10)),
    .op (some 98) none (.bin .add (.t 97) (.c (.int .i64 1))),
    .op (some 10) none (.mv (.t 98))]
def c99r24 : List AStm := [.op (some 108) none (.mv (.t 0)),
    .op (some 109) none (.mv (.t 8)),
    .op (some 110) none (.sstr (.t 108) (some (.t 109)) none),
    .op (some 111) none (.mv (.t 1)),
    .call (some 112) none (.c (.fn (.func 108) [] [])) [(.t 110), (.t 111)],
    .op (some 12) none (.mv (.t 112))]
def c99r25 : List AStm := [.op (some 113) none (.mv (.t 12)),
    .op (some 114) none (.bin .geq (.t 113) (.c (.int .i64 0)))]
def c99r26 : List AStm := [.op (some 115) none (.mv (.t 12)),
    .op (some 116) none (.mv (.t 8)),
    .op (some 117) none (.bin .add (.t 115) (.t 116)),
    .op (some 4) none (.mv (.t 117))]
def c99r27 : List AStm := [.op (some 4) none (.mv (.c (.int .i64 (-1))))]
def c99r28 : List AStm := [.op (some 133) none (.mv (.t 0)),
    .op (some 134) none (.mv (.t 8)),
    .op (some 135) none (.sstr (.t 133) (some (.t 134)) none),
    .op (some 136) none (.mv (.t 1)),
    .call (some 137) none (.c (.fn (.func 110) [] [])) [(.t 135), (.t 136)],
    .op (some 13) none (.mv (.t 137))]
def c99r29 : List AStm := [.op (some 138) none (.mv (.t 13)),
    .op (some 139) none (.bin .lss (.t 138) (.c (.int .i64 0)))]
def c99r30 : List AStm := [.op (some 4) none (.mv (.c (.int .i64 (-1))))]
def c99r31 : List AStm := [.op (some 140) none (.mv (.t 8)),
    .op (some 141) none (.mv (.t 13)),
    .op (some 142) none (.bin .add (.t 140) (.t 141)),
    .op (some 4) none (.mv (.t 142))]
def c99l32 : AC := .seq (.seq (.reg c99r14) (.cond (.t 59) (.skip) (.exit 1))) (.block 2 (.seq (.seq (.reg c99r15) (.cond (.t 64) (.seq (.reg c99r16) (.seq (.seq (.reg c99r17) (.cond (.t 73) (.seq (.reg c99r18) (.ret)) (.skip))) (.reg c99r19))) (.skip))) (.seq (.seq (.reg c99r20) (.cond (.t 93) (.seq (.reg c99r21) (.ret)) (.skip))) (.seq (.reg c99r22) (.seq (.reg c99r23) (.seq (.bad) (.cond (.t 107) (.seq (.reg c99r24) (.seq (.seq (.reg c99r25) (.cond (.t 114) (.seq (.reg c99r26) (.ret)) (.skip))) (.seq (.reg c99r27) (.ret)))) (.seq (.bad) (.cond (.t 132) (.seq (.reg c99r28) (.seq (.seq (.reg c99r29) (.cond (.t 139) (.seq (.reg c99r30) (.ret)) (.skip))) (.seq (.reg c99r31) (.ret)))) (.skip))))))))))
def c99r33 : List AStm := [.op (some 4) none (.mv (.c (.int .i64 (-1))))]
def c99 : CF := ⟨.seq (.reg c99r0) (.seq (.reg c99r1) (.seq (.block 0 (.seq (.reg c99r2) (.cond (.t 16) (.seq (.reg c99r3) (.ret)) (.seq (.reg c99r4) (.cond (.t 24) (.seq (.reg c99r5) (.ret)) (.seq (.reg c99r6) (.cond (.t 31) (.seq (.reg c99r7) (.ret)) (.seq (.bad) (.cond (.t 36) (.seq (.reg c99r8) (.ret)) (.skip)))))))))) (.seq (.reg c99r9) (.seq (.reg c99r10) (.seq (.reg c99r11) (.seq (.reg c99r12) (.seq (.reg c99r13) (.seq (.block 1 (.loop c99l32)) (.seq (.reg c99r33) (.ret)))))))))), [.tmp 4], 143⟩
theorem cf99 : cfun Try.prog 99 = some c99 := by kernel_rfl

/-! ### (*weighbridge/colons.reader).skip, params 2 -/
def c100r0 : List AStm := [.op (some 4) none (.mv (.c (.bool false)))]
def c100r1 : List AStm := [.op (some 8) none (.mv (.t 0)),
    .op (some 9) none (.nilchk (.t 8)),
    .op (some 10) none (.faddr 0 (.t 9)),
    .op (some 11) none (.load none (.t 10)),
    .op (some 12) none (.mv (.t 1)),
    .call (some 13) none (.c (.fn (.func 111) [] [])) [(.t 11), (.t 12)],
    .op (some 7) none (.mv (.t 13)),
    .op (some 14) none (.ext (.t 7) 0),
    .op (some 15) none (.ext (.t 7) 1),
    .op (some 5) none (.mv (.t 14)),
    .op (some 6) none (.mv (.t 15))]
def c100r2 : List AStm := [.op (some 16) none (.mv (.t 0)),
    .op (some 17) none (.mv (.t 5)),
    .op (some 18) none (.nilchk (.t 16)),
    .op (some 19) none (.faddr 0 (.t 18)),
    .op none none (.store 1 (.t 19) (.t 17))]
def c100r3 : List AStm := [.op (some 20) none (.mv (.t 6)),
    .op (some 4) none (.mv (.t 20))]
def c100 : CF := ⟨.seq (.reg c100r0) (.seq (.reg c100r1) (.seq (.reg c100r2) (.seq (.reg c100r3) (.ret)))), [.tmp 4], 21⟩
theorem cf100 : cfun Try.prog 100 = some c100 := by kernel_rfl

/-! ### (*weighbridge/colons.reader).last, params 1 -/
def c101r0 : List AStm := [.op (some 2) none (.mv (.c (.bool false)))]
def c101r1 : List AStm := [.op (some 6) none (.mv (.t 0)),
    .op (some 7) none (.nilchk (.t 6)),
    .op (some 8) none (.faddr 0 (.t 7)),
    .op (some 9) none (.load none (.t 8)),
    .call (some 10) none (.c (.fn (.func 65) [] [])) [(.t 9)],
    .op (some 5) none (.mv (.t 10)),
    .op (some 11) none (.ext (.t 5) 0),
    .op (some 12) none (.ext (.t 5) 1),
    .op (some 3) none (.alloc (List.replicate 4 (.int .u8 0))),
    .op none none (.store 4 (.t 3) (.t 11)),
    .op (some 4) none (.mv (.t 12))]
def c101r2 : List AStm := [.op (some 13) none (.mv (.t 4)),
    .op (some 14) none (.bin .neq (.t 13) (.c (.int .i64 0)))]
def c101r3 : List AStm := [.op (some 2) none (.mv (.c (.bool false)))]
def c101r4 : List AStm := [.op (some 15) none (.mv (.t 0)),
    .op (some 16) none (.nilchk (.t 15)),
    .op (some 17) none (.faddr 0 (.t 16)),
    .op none none (.store 1 (.t 17) (.c (.str (bs []))))]
def c101r5 : List AStm := [.op (some 18) none (.mv (.t 0)),
    .op (some 19) none (.ixa 4 1 (.t 3) (.c (.int .i64 0))),
    .op (some 20) none (.load none (.t 19)),
    .op (some 21) none (.conv .u16 (.t 20)),
    .op (some 22) none (.bin .shl (.t 21) (.c (.int .u64 8))),
    .op (some 23) none (.ixa 4 1 (.t 3) (.c (.int .i64 1))),
    .op (some 24) none (.load none (.t 23)),
    .op (some 25) none (.conv .u16 (.t 24)),
    .op (some 26) none (.bin .or (.t 22) (.t 25)),
    .call (some 27) none (.c (.fn (.func 112) [] [])) [(.t 18), (.t 26)],
    .op (some 28) none (.mv (.t 27)),
    .op (some 29) (some (28, true)) (.mv (.t 0)),
    .op (some 30) (some (28, true)) (.ixa 4 1 (.t 3) (.c (.int .i64 2))),
    .op (some 31) (some (28, true)) (.load none (.t 30)),
    .op (some 32) (some (28, true)) (.conv .u16 (.t 31)),
    .op (some 33) (some (28, true)) (.bin .shl (.t 32) (.c (.int .u64 8))),
    .op (some 34) (some (28, true)) (.ixa 4 1 (.t 3) (.c (.int .i64 3))),
    .op (some 35) (some (28, true)) (.load none (.t 34)),
    .op (some 36) (some (28, true)) (.conv .u16 (.t 35)),
    .op (some 37) (some (28, true)) (.bin .or (.t 33) (.t 36)),
    .call (some 38) (some (28, true)) (.c (.fn (.func 112) [] [])) [(.t 29), (.t 37)],
    .op (some 39) none (.pick (.t 28) (.t 38) (.c (.bool false))),
    .op (some 2) none (.mv (.t 39))]
def c101 : CF := ⟨.seq (.reg c101r0) (.seq (.reg c101r1) (.seq (.seq (.reg c101r2) (.cond (.t 14) (.seq (.reg c101r3) (.ret)) (.skip))) (.seq (.reg c101r4) (.seq (.reg c101r5) (.ret))))), [.tmp 2], 40⟩
theorem cf101 : cfun Try.prog 101 = some c101 := by kernel_rfl

/-! ### (*weighbridge/colons.reader).group, params 1 -/
def c102r0 : List AStm := [.op (some 2) none (.mv (.c (.bool false)))]
def c102r1 : List AStm := [.op (some 3) none (.mv (.c (.int .u16 0)))]
def c102r2 : List AStm := [.op (some 4) none (.mv (.c (.int .i64 0)))]
def c102r3 : List AStm := [.op (some 7) none (.mv (.t 4)),
    .op (some 8) none (.mv (.t 0)),
    .op (some 9) none (.nilchk (.t 8)),
    .op (some 10) none (.faddr 0 (.t 9)),
    .op (some 11) none (.load none (.t 10)),
    .op (some 12) none (.len true (.t 11)),
    .op (some 13) none (.bin .lss (.t 7) (.t 12))]
def c102r4 : List AStm := [.op (some 15) none (.mv (.t 0)),
    .op (some 16) none (.nilchk (.t 15)),
    .op (some 17) none (.faddr 0 (.t 16)),
    .op (some 18) none (.load none (.t 17)),
    .op (some 19) none (.mv (.t 4)),
    .op (some 20) none (.ixstr (.t 18) (.t 19)),
    .call (some 21) none (.c (.fn (.func 113) [] [])) [(.t 20)],
    .op (some 14) none (.mv (.t 21)),
    .op (some 22) none (.ext (.t 14) 0),
    .op (some 23) none (.ext (.t 14) 1),
    .op (some 5) none (.mv (.t 22)),
    .op (some 6) none (.mv (.t 23))]
def c102r5 : List AStm := [.op (some 24) none (.mv (.t 6)),
    .op (some 25) none (.un .not (.t 24))]
def c102r6 : List AStm := [.op (some 26) none (.mv (.t 4)),
    .op (some 27) none (.bin .eql (.t 26) (.c (.int .i64 4)))]
def c102r7 : List AStm := [.op (some 2) none (.mv (.c (.bool false)))]
def c102r8 : List AStm := [.op (some 28) none (.mv (.t 3)),
    .op (some 29) none (.bin .shl (.t 28) (.c (.int .u64 4))),
    .op (some 30) none (.mv (.t 5)),
    .op (some 31) none (.bin .or (.t 29) (.t 30)),
    .op (some 3) none (.mv (.t 31))]
def c102r9 : List AStm := [.op (some 32) none (.mv (.t 4)),
    .op (some 33) none (.bin .add (.t 32) (.c (.int .i64 1))),
    .op (some 4) none (.mv (.t 33))]
def c102l10 : AC := .seq (.seq (.reg c102r3) (.cond (.t 13) (.skip) (.exit 0))) (.block 1 (.seq (.reg c102r4) (.seq (.seq (.reg c102r5) (.cond (.t 25) (.exit 0) (.skip))) (.seq (.seq (.reg c102r6) (.cond (.t 27) (.seq (.reg c102r7) (.ret)) (.skip))) (.seq (.reg c102r8) (.reg c102r9))))))
def c102r11 : List AStm := [.op (some 34) none (.mv (.t 4)),
    .op (some 35) none (.bin .eql (.t 34) (.c (.int .i64 0)))]
def c102r12 : List AStm := [.op (some 2) none (.mv (.c (.bool false)))]
def c102r13 : List AStm := [.op (some 36) none (.mv (.t 0)),
    .op (some 37) none (.mv (.t 0)),
    .op (some 38) none (.nilchk (.t 37)),
    .op (some 39) none (.faddr 0 (.t 38)),
    .op (some 40) none (.load none (.t 39)),
    .op (some 41) none (.mv (.t 4)),
    .op (some 42) none (.sstr (.t 40) (some (.t 41)) none),
    .op (some 43) none (.nilchk (.t 36)),
    .op (some 44) none (.faddr 0 (.t 43)),
    .op none none (.store 1 (.t 44) (.t 42))]
def c102r14 : List AStm := [.op (some 45) none (.mv (.t 0)),
    .op (some 46) none (.mv (.t 3)),
    .call (some 47) none (.c (.fn (.func 112) [] [])) [(.t 45), (.t 46)],
    .op (some 2) none (.mv (.t 47))]
def c102 : CF := ⟨.seq (.reg c102r0) (.seq (.reg c102r1) (.seq (.reg c102r2) (.seq (.block 0 (.loop c102l10)) (.seq (.seq (.reg c102r11) (.cond (.t 35) (.seq (.reg c102r12) (.ret)) (.skip))) (.seq (.reg c102r13) (.seq (.reg c102r14) (.ret))))))), [.tmp 2], 48⟩
theorem cf102 : cfun Try.prog 102 = some c102 := by kernel_rfl

/-! ### weighbridge/wide.twice, params 2 -/
def c103r0 : List AStm := [.op (some 2) none (.box (.t 0)),
    .op (some 4) none (.alloc [(.int .u64 0), (.int .u64 0)])]
def c103r1 : List AStm := [.op (some 5) none (.faddr 0 (.t 2)),
    .op (some 6) none (.load none (.t 5)),
    .op (some 7) none (.bin .shl (.t 6) (.c (.int .u64 1))),
    .op (some 8) none (.faddr 1 (.t 2)),
    .op (some 9) none (.load none (.t 8)),
    .op (some 10) none (.bin .shr (.t 9) (.c (.int .u64 63))),
    .op (some 11) none (.bin .or (.t 7) (.t 10)),
    .op (some 12) none (.faddr 1 (.t 2)),
    .op (some 13) none (.load none (.t 12)),
    .op (some 14) none (.bin .shl (.t 13) (.c (.int .u64 1))),
    .op (some 15) none (.mv (.t 1)),
    .op (some 16) none (.bin .or (.t 14) (.t 15)),
    .op (some 17) none (.build [(.int .u64 0), (.int .u64 0)] [(0, 1, (.t 11)), (1, 1, (.t 16))]),
    .op none none (.store 2 (.t 4) (.t 17))]
def c103 : CF := ⟨.seq (.reg c103r0) (.seq (.reg c103r1) (.ret)), [.cell 4 (some 2)], 18⟩
theorem cf103 : cfun Try.prog 103 = some c103 := by kernel_rfl

/-! ### weighbridge/wide.Less, params 2 -/
def c104r0 : List AStm := [.op (some 2) none (.box (.t 0)),
    .op (some 3) none (.box (.t 1)),
    .op (some 4) none (.mv (.c (.bool false)))]
def c104r1 : List AStm := [.op (some 5) none (.faddr 0 (.t 2)),
    .op (some 6) none (.load none (.t 5)),
    .op (some 7) none (.faddr 0 (.t 3)),
    .op (some 8) none (.load none (.t 7)),
    .op (some 9) none (.bin .neq (.t 6) (.t 8))]
def c104r2 : List AStm := [.op (some 10) none (.faddr 0 (.t 2)),
    .op (some 11) none (.load none (.t 10)),
    .op (some 12) none (.faddr 0 (.t 3)),
    .op (some 13) none (.load none (.t 12)),
    .op (some 14) none (.bin .lss (.t 11) (.t 13)),
    .op (some 4) none (.mv (.t 14))]
def c104r3 : List AStm := [.op (some 15) none (.faddr 1 (.t 2)),
    .op (some 16) none (.load none (.t 15)),
    .op (some 17) none (.faddr 1 (.t 3)),
    .op (some 18) none (.load none (.t 17)),
    .op (some 19) none (.bin .lss (.t 16) (.t 18)),
    .op (some 4) none (.mv (.t 19))]
def c104 : CF := ⟨.seq (.reg c104r0) (.seq (.seq (.reg c104r1) (.cond (.t 9) (.seq (.reg c104r2) (.ret)) (.skip))) (.seq (.reg c104r3) (.ret))), [.tmp 4], 20⟩
theorem cf104 : cfun Try.prog 104 = some c104 := by kernel_rfl

/-! ### weighbridge/wide.Sub, params 2 -/
def c105r0 : List AStm := [.op (some 2) none (.box (.t 0)),
    .op (some 3) none (.box (.t 1)),
    .op (some 4) none (.alloc [(.int .u64 0), (.int .u64 0)]),
    .op (some 5) none (.mv (.c (.bool false)))]
def c105r1 : List AStm := [.op (some 7) none (.faddr 0 (.t 2)),
    .op (some 8) none (.load none (.t 7)),
    .op (some 9) none (.faddr 0 (.t 3)),
    .op (some 10) none (.load none (.t 9)),
    .op (some 11) none (.bin .sub (.t 8) (.t 10)),
    .op (some 12) none (.faddr 1 (.t 2)),
    .op (some 13) none (.load none (.t 12)),
    .op (some 14) none (.faddr 1 (.t 3)),
    .op (some 15) none (.load none (.t 14)),
    .op (some 16) none (.bin .sub (.t 13) (.t 15)),
    .op (some 17) none (.build [(.int .u64 0), (.int .u64 0)] [(0, 1, (.t 11)), (1, 1, (.t 16))]),
    .op (some 6) none (.alloc [(.int .u64 0), (.int .u64 0)]),
    .op none none (.store 2 (.t 6) (.t 17))]
def c105r2 : List AStm := [.op (some 18) none (.faddr 1 (.t 2)),
    .op (some 19) none (.load none (.t 18)),
    .op (some 20) none (.faddr 1 (.t 3)),
    .op (some 21) none (.load none (.t 20)),
    .op (some 22) none (.bin .lss (.t 19) (.t 21))]
def c105r3 : List AStm := [.op (some 23) none (.faddr 0 (.t 6)),
    .op (some 24) none (.load none (.t 23)),
    .op (some 25) none (.bin .sub (.t 24) (.c (.int .u64 1))),
    .op (some 26) none (.faddr 0 (.t 6)),
    .op none none (.store 1 (.t 26) (.t 25))]
def c105r4 : List AStm := []
def c105r5 : List AStm := [.op (some 27) none (.load (some 2) (.t 6)),
    .op (some 28) none (.load (some 2) (.t 2)),
    .op (some 29) none (.load (some 2) (.t 3)),
    .callG (some 30) none (.c (.fn (.func 104) [] [])) [(.t 28), (.t 29)],
    .op none none (.store 2 (.t 4) (.t 27)),
    .op (some 5) none (.mv (.t 30))]
def c105 : CF := ⟨.seq (.reg c105r0) (.seq (.reg c105r1) (.seq (.seq (.reg c105r2) (.cond (.t 22) (.reg c105r3) (.skip))) (.seq (.dreg c105r4 c105r5) (.ret)))), [.cell 4 (some 2), .tmp 5], 31⟩
theorem cf105 : cfun Try.prog 105 = some c105 := by kernel_rfl

/-! ### internal/stringslite.IndexByte, params 2 -/
def c107r0 : List AStm := [.op (some 4) none (.mv (.c (.int .i64 0)))]
def c107r1 : List AStm := [.op (some 5) none (.mv (.t 0)),
    .op (some 6) none (.mv (.t 1)),
    .op (some 7) none (.ixb (.t 5) (.t 6)),
    .op (some 4) none (.mv (.t 7))]
def c107 : CF := ⟨.seq (.reg c107r0) (.seq (.reg c107r1) (.ret)), [.tmp 4], 8⟩
theorem cf107 : cfun Try.prog 107 = some c107 := by kernel_rfl

/-! ### internal/bytealg.IndexRabinKarp[string], params 2 -/
def c110r0 : List AStm := [.op (some 4) none (.mv (.c (.int .i64 0)))]
def c110r1 : List AStm := [.op (some 12) none (.mv (.t 1)),
    .call (some 13) none (.c (.fn (.func 115) [] [])) [(.t 12)],
    .op (some 11) none (.mv (.t 13)),
    .op (some 14) none (.ext (.t 11) 0),
    .op (some 15) none (.ext (.t 11) 1),
    .op (some 5) none (.mv (.t 14)),
    .op (some 6) none (.mv (.t 15))]
def c110r2 : List AStm := [.op (some 16) none (.mv (.t 1)),
    .op (some 17) none (.len true (.t 16)),
    .op (some 7) none (.mv (.t 17))]
def c110r3 : List AStm := [.op (some 8) none (.mv (.c (.int .u32 0)))]
def c110r4 : List AStm := [.op (some 9) none (.mv (.c (.int .i64 0)))]
def c110r5 : List AStm := [.op (some 18) none (.mv (.t 9)),
    .op (some 19) none (.mv (.t 7)),
    .op (some 20) none (.bin .lss (.t 18) (.t 19))]
def c110r6 : List AStm := [.op (some 23) none (.mv (.t 8)),
    .op (some 24) none (.bin .mul (.t 23) (.c (.int .u32 16777619))),
    .op (some 25) none (.mv (.t 0)),
    .op (some 26) none (.mv (.t 9)),
    .op (some 27) none (.ixstr (.t 25) (.t 26)),
    .op (some 28) none (.conv .u32 (.t 27)),
    .op (some 29) none (.bin .add (.t 24) (.t 28)),
    .op (some 8) none (.mv (.t 29))]
def c110r7 : List AStm := [.op (some 21) none (.mv (.t 9)),
    .op (some 22) none (.bin .add (.t 21) (.c (.int .i64 1))),
    .op (some 9) none (.mv (.t 22))]
def c110l8 : AC := .seq (.seq (.reg c110r5) (.cond (.t 20) (.skip) (.exit 0))) (.seq (.block 1 (.reg c110r6)) (.reg c110r7))
def c110r9 : List AStm := [.op (some 30) none (.mv (.t 8)),
    .op (some 31) none (.mv (.t 5)),
    .op (some 32) none (.bin .eql (.t 30) (.t 31)),
    .op (some 33) none (.mv (.t 32)),
    .op (some 34) (some (33, true)) (.mv (.t 0)),
    .op (some 35) (some (33, true)) (.mv (.t 7)),
    .op (some 36) (some (33, true)) (.sstr (.t 34) none (some (.t 35))),
    .op (some 37) (some (33, true)) (.mv (.t 1)),
    .op (some 38) (some (33, true)) (.bin .eql (.t 36) (.t 37)),
    .op (some 39) none (.pick (.t 33) (.t 38) (.c (.bool false)))]
def c110r10 : List AStm := [.op (some 4) none (.mv (.c (.int .i64 0)))]
def c110r11 : List AStm := [.op (some 40) none (.mv (.t 7)),
    .op (some 10) none (.mv (.t 40))]
def c110r12 : List AStm := [.op (some 41) none (.mv (.t 10)),
    .op (some 42) none (.mv (.t 0)),
    .op (some 43) none (.len true (.t 42)),
    .op (some 44) none (.bin .lss (.t 41) (.t 43))]
def c110r13 : List AStm := [.op (some 45) none (.mv (.t 8)),
    .op (some 46) none (.bin .mul (.t 45) (.c (.int .u32 16777619))),
    .op (some 8) none (.mv (.t 46))]
def c110r14 : List AStm := [.op (some 47) none (.mv (.t 8)),
    .op (some 48) none (.mv (.t 0)),
    .op (some 49) none (.mv (.t 10)),
    .op (some 50) none (.ixstr (.t 48) (.t 49)),
    .op (some 51) none (.conv .u32 (.t 50)),
    .op (some 52) none (.bin .add (.t 47) (.t 51)),
    .op (some 8) none (.mv (.t 52))]
def c110r15 : List AStm := [.op (some 53) none (.mv (.t 8)),
    .op (some 54) none (.mv (.t 6)),
    .op (some 55) none (.mv (.t 0)),
    .op (some 56) none (.mv (.t 10)),
    .op (some 57) none (.mv (.t 7)),
    .op (some 58) none (.bin .sub (.t 56) (.t 57)),
    .op (some 59) none (.ixstr (.t 55) (.t 58)),
    .op (some 60) none (.conv .u32 (.t 59)),
    .op (some 61) none (.bin .mul (.t 54) (.t 60)),
    .op (some 62) none (.bin .sub (.t 53) (.t 61)),
    .op (some 8) none (.mv (.t 62))]
def c110r16 : List AStm := [.op (some 63) none (.mv (.t 10)),
    .op (some 64) none (.bin .add (.t 63) (.c (.int .i64 1))),
    .op (some 10) none (.mv (.t 64))]
def c110r17 : List AStm := [.op (some 65) none (.mv (.t 8)),
    .op (some 66) none (.mv (.t 5)),
    .op (some 67) none (.bin .eql (.t 65) (.t 66)),
    .op (some 68) none (.mv (.t 67)),
    .op (some 69) (some (68, true)) (.mv (.t 0)),
    .op (some 70) (some (68, true)) (.mv (.t 10)),
    .op (some 71) (some (68, true)) (.mv (.t 7)),
    .op (some 72) (some (68, true)) (.bin .sub (.t 70) (.t 71)),
    .op (some 73) (some (68, true)) (.mv (.t 10)),
    .op (some 74) (some (68, true)) (.sstr (.t 69) (some (.t 72)) (some (.t 73))),
    .op (some 75) (some (68, true)) (.mv (.t 1)),
    .op (some 76) (some (68, true)) (.bin .eql (.t 74) (.t 75)),
    .op (some 77) none (.pick (.t 68) (.t 76) (.c (.bool false)))]
def c110r18 : List AStm := [.op (some 78) none (.mv (.t 10)),
    .op (some 79) none (.mv (.t 7)),
    .op (some 80) none (.bin .sub (.t 78) (.t 79)),
    .op (some 4) none (.mv (.t 80))]
def c110l19 : AC := .seq (.seq (.reg c110r12) (.cond (.t 44) (.skip) (.exit 2))) (.block 3 (.seq (.reg c110r13) (.seq (.reg c110r14) (.seq (.reg c110r15) (.seq (.reg c110r16) (.seq (.reg c110r17) (.cond (.t 77) (.seq (.reg c110r18) (.ret)) (.skip))))))))
def c110r20 : List AStm := [.op (some 4) none (.mv (.c (.int .i64 (-1))))]
def c110 : CF := ⟨.seq (.reg c110r0) (.seq (.reg c110r1) (.seq (.reg c110r2) (.seq (.reg c110r3) (.seq (.seq (.reg c110r4) (.block 0 (.loop c110l8))) (.seq (.seq (.reg c110r9) (.cond (.t 39) (.seq (.reg c110r10) (.ret)) (.skip))) (.seq (.seq (.reg c110r11) (.block 2 (.loop c110l19))) (.seq (.reg c110r20) (.ret)))))))), [.tmp 4], 81⟩
theorem cf110 : cfun Try.prog 110 = some c110 := by kernel_rfl

/-! ### strings.CutPrefix, params 2 -/
def c111r0 : List AStm := [.op (some 4) none (.mv (.c (.str (bs [])))),
    .op (some 5) none (.mv (.c (.bool false)))]
def c111r1 : List AStm := [.op (some 6) none (.mv (.t 0)),
    .op (some 7) none (.mv (.t 1)),
    .call (some 8) none (.c (.fn (.func 116) [] [])) [(.t 6), (.t 7)],
    .op (some 9) none (.ext (.t 8) 0),
    .op (some 10) none (.ext (.t 8) 1),
    .op (some 4) none (.mv (.t 9)),
    .op (some 5) none (.mv (.t 10))]
def c111 : CF := ⟨.seq (.reg c111r0) (.seq (.reg c111r1) (.ret)), [.tmp 4, .tmp 5], 11⟩
theorem cf111 : cfun Try.prog 111 = some c111 := by kernel_rfl

/-! ### (*weighbridge/colons.reader).put, params 2 -/
def c112r0 : List AStm := [.op (some 4) none (.mv (.c (.bool false)))]
def c112r1 : List AStm := [.op (some 5) none (.mv (.t 0)),
    .op (some 6) none (.nilchk (.t 5)),
    .op (some 7) none (.faddr 9 (.t 6)),
    .op (some 8) none (.load none (.t 7)),
    .op (some 9) none (.bin .eql (.t 8) (.c (.int .i64 8)))]
def c112r2 : List AStm := [.op (some 4) none (.mv (.c (.bool false)))]
def c112r3 : List AStm := [.op (some 10) none (.mv (.t 0)),
    .op (some 11) none (.mv (.t 0)),
    .op (some 12) none (.nilchk (.t 11)),
    .op (some 13) none (.faddr 9 (.t 12)),
    .op (some 14) none (.load none (.t 13)),
    .op (some 15) none (.mv (.t 1)),
    .op (some 16) none (.nilchk (.t 10)),
    .op (some 17) none (.faddr 1 (.t 16)),
    .op (some 18) none (.ixa 8 1 (.t 17) (.t 14)),
    .op none none (.store 1 (.t 18) (.t 15))]
def c112r4 : List AStm := []
def c112r5 : List AStm := [.op (some 19) none (.mv (.t 0)),
    .op (some 20) none (.nilchk (.t 19)),
    .op (some 21) none (.faddr 9 (.t 20)),
    .op (some 22) none (.load none (.t 21)),
    .op (some 23) none (.bin .add (.t 22) (.c (.int .i64 1))),
    .op (some 24) none (.nilchk (.t 19)),
    .op (some 25) none (.faddr 9 (.t 24)),
    .op none none (.store 1 (.t 25) (.t 23))]
def c112r6 : List AStm := [.op (some 4) none (.mv (.c (.bool true)))]
def c112 : CF := ⟨.seq (.reg c112r0) (.seq (.seq (.reg c112r1) (.cond (.t 9) (.seq (.reg c112r2) (.ret)) (.skip))) (.seq (.dreg c112r3 c112r4) (.seq (.reg c112r5) (.seq (.reg c112r6) (.ret))))), [.tmp 4], 26⟩
theorem cf112 : cfun Try.prog 112 = some c112 := by kernel_rfl

/-! ### weighbridge/colons.figure, params 1 -/
def c113r0 : List AStm := [.op (some 2) none (.mv (.c (.int .u16 0))),
    .op (some 3) none (.mv (.c (.bool false)))]
def c113r1 : List AStm := [.op (some 5) none (.mv (.t 0)),
    .op (some 6) none (.bin .geq (.t 5) (.c (.int .u8 65))),
    .op (some 7) none (.mv (.t 6)),
    .op (some 8) (some (7, true)) (.mv (.t 0)),
    .op (some 9) (some (7, true)) (.bin .leq (.t 8) (.c (.int .u8 70))),
    .op (some 10) none (.pick (.t 7) (.t 9) (.c (.bool false))),
    .op (some 4) none (.mv (.t 10))]
def c113r2 : List AStm := [.op (some 12) none (.mv (.t 0)),
    .op (some 13) none (.bin .geq (.t 12) (.c (.int .u8 97))),
    .op (some 14) none (.mv (.t 13)),
    .op (some 15) (some (14, true)) (.mv (.t 0)),
    .op (some 16) (some (14, true)) (.bin .leq (.t 15) (.c (.int .u8 102))),
    .op (some 17) none (.pick (.t 14) (.t 16) (.c (.bool false))),
    .op (some 11) none (.mv (.t 17))]
def c113r3 : List AStm := [.op (some 19) none (.mv (.t 0)),
    .op (some 20) none (.bin .geq (.t 19) (.c (.int .u8 48))),
    .op (some 21) none (.mv (.t 20)),
    .op (some 22) (some (21, true)) (.mv (.t 0)),
    .op (some 23) (some (21, true)) (.bin .leq (.t 22) (.c (.int .u8 57))),
    .op (some 24) none (.pick (.t 21) (.t 23) (.c (.bool false))),
    .op (some 18) none (.mv (.t 24))]
def c113r4 : List AStm := [.op (some 25) none (.mv (.t 0)),
    .op (some 26) none (.bin .add (.t 25) (.c (.int .u8 32))),
    .op (some 0) none (.mv (.t 26))]
def c113r5 : List AStm := [.op (some 27) none (.mv (.t 0)),
    .op (some 28) none (.bin .sub (.t 27) (.c (.int .u8 97))),
    .op (some 29) none (.conv .u16 (.t 28)),
    .op (some 30) none (.bin .add (.t 29) (.c (.int .u16 10))),
    .op (some 2) none (.mv (.t 30)),
    .op (some 3) none (.mv (.c (.bool true)))]
def c113r6 : List AStm := [.op (some 31) none (.mv (.t 0)),
    .op (some 32) none (.bin .sub (.t 31) (.c (.int .u8 48))),
    .op (some 33) none (.conv .u16 (.t 32)),
    .op (some 2) none (.mv (.t 33)),
    .op (some 3) none (.mv (.c (.bool true)))]
def c113r7 : List AStm := [.op (some 2) none (.mv (.c (.int .u16 0))),
    .op (some 3) none (.mv (.c (.bool false)))]
def c113 : CF := ⟨.seq (.reg c113r0) (.seq (.block 0 (.seq (.block 3 (.seq (.block 2 (.seq (.block 1 (.seq (.seq (.seq (.reg c113r1) (.cond (.t 4) (.exit 1) (.skip))) (.seq (.seq (.reg c113r2) (.cond (.t 11) (.exit 2) (.skip))) (.seq (.reg c113r3) (.cond (.t 18) (.exit 3) (.skip))))) (.exit 0))) (.reg c113r4))) (.seq (.seq (.reg c113r5) (.ret)) (.exit 0)))) (.seq (.seq (.reg c113r6) (.ret)) (.exit 0)))) (.seq (.reg c113r7) (.ret))), [.tmp 2, .tmp 3], 34⟩
theorem cf113 : cfun Try.prog 113 = some c113 := by kernel_rfl

/-! ### internal/bytealg.hashStr[string], params 1 -/
def c115r0 : List AStm := [.op (some 2) none (.mv (.c (.int .u32 0))),
    .op (some 3) none (.mv (.c (.int .u32 0)))]
def c115r1 : List AStm := [.op (some 4) none (.mv (.c (.int .u32 0)))]
def c115r2 : List AStm := [.op (some 5) none (.mv (.c (.int .i64 0)))]
def c115r3 : List AStm := [.op (some 9) none (.mv (.t 5)),
    .op (some 10) none (.mv (.t 0)),
    .op (some 11) none (.len true (.t 10)),
    .op (some 12) none (.bin .lss (.t 9) (.t 11))]
def c115r4 : List AStm := [.op (some 15) none (.mv (.t 4)),
    .op (some 16) none (.bin .mul (.t 15) (.c (.int .u32 16777619))),
    .op (some 17) none (.mv (.t 0)),
    .op (some 18) none (.mv (.t 5)),
    .op (some 19) none (.ixstr (.t 17) (.t 18)),
    .op (some 20) none (.conv .u32 (.t 19)),
    .op (some 21) none (.bin .add (.t 16) (.t 20)),
    .op (some 4) none (.mv (.t 21))]
def c115r5 : List AStm := [.op (some 13) none (.mv (.t 5)),
    .op (some 14) none (.bin .add (.t 13) (.c (.int .i64 1))),
    .op (some 5) none (.mv (.t 14))]
def c115l6 : AC := .seq (.seq (.reg c115r3) (.cond (.t 12) (.skip) (.exit 0))) (.seq (.block 1 (.reg c115r4)) (.reg c115r5))
def c115r7 : List AStm := [.op (some 6) none (.mv (.c (.int .u32 1))),
    .op (some 7) none (.mv (.c (.int .u32 16777619)))]
def c115r8 : List AStm := [.op (some 22) none (.mv (.t 0)),
    .op (some 23) none (.len true (.t 22)),
    .op (some 8) none (.mv (.t 23))]
def c115r9 : List AStm := [.op (some 24) none (.mv (.t 8)),
    .op (some 25) none (.bin .gtr (.t 24) (.c (.int .i64 0)))]
def c115r10 : List AStm := [.op (some 28) none (.mv (.t 8)),
    .op (some 29) none (.bin .and (.t 28) (.c (.int .i64 1))),
    .op (some 30) none (.bin .neq (.t 29) (.c (.int .i64 0)))]
def c115r11 : List AStm := [.op (some 31) none (.mv (.t 6)),
    .op (some 32) none (.mv (.t 7)),
    .op (some 33) none (.bin .mul (.t 31) (.t 32)),
    .op (some 6) none (.mv (.t 33))]
def c115r12 : List AStm := [.op (some 34) none (.mv (.t 7)),
    .op (some 35) none (.mv (.t 7)),
    .op (some 36) none (.bin .mul (.t 34) (.t 35)),
    .op (some 7) none (.mv (.t 36))]
def c115r13 : List AStm := [.op (some 26) none (.mv (.t 8)),
    .op (some 27) none (.bin .shr (.t 26) (.c (.int .u64 1))),
    .op (some 8) none (.mv (.t 27))]
def c115l14 : AC := .seq (.seq (.reg c115r9) (.cond (.t 25) (.skip) (.exit 2))) (.seq (.block 3 (.seq (.seq (.reg c115r10) (.cond (.t 30) (.reg c115r11) (.skip))) (.reg c115r12))) (.reg c115r13))
def c115r15 : List AStm := [.op (some 37) none (.mv (.t 4)),
    .op (some 38) none (.mv (.t 6)),
    .op (some 2) none (.mv (.t 37)),
    .op (some 3) none (.mv (.t 38))]
def c115 : CF := ⟨.seq (.reg c115r0) (.seq (.reg c115r1) (.seq (.seq (.reg c115r2) (.block 0 (.loop c115l6))) (.seq (.reg c115r7) (.seq (.seq (.reg c115r8) (.block 2 (.loop c115l14))) (.seq (.reg c115r15) (.ret)))))), [.tmp 2, .tmp 3], 39⟩
theorem cf115 : cfun Try.prog 115 = some c115 := by kernel_rfl

/-! ### internal/stringslite.CutPrefix, params 2 -/
def c116r0 : List AStm := [.op (some 4) none (.mv (.c (.str (bs [])))),
    .op (some 5) none (.mv (.c (.bool false)))]
def c116r1 : List AStm := [.op (some 6) none (.mv (.t 0)),
    .op (some 7) none (.mv (.t 1)),
    .call (some 8) none (.c (.fn (.func 117) [] [])) [(.t 6), (.t 7)],
    .op (some 9) none (.un .not (.t 8))]
def c116r2 : List AStm := [.op (some 10) none (.mv (.t 0)),
    .op (some 4) none (.mv (.t 10)),
    .op (some 5) none (.mv (.c (.bool false)))]
def c116r3 : List AStm := [.op (some 11) none (.mv (.t 0)),
    .op (some 12) none (.mv (.t 1)),
    .op (some 13) none (.len true (.t 12)),
    .op (some 14) none (.sstr (.t 11) (some (.t 13)) none),
    .op (some 4) none (.mv (.t 14)),
    .op (some 5) none (.mv (.c (.bool true)))]
def c116 : CF := ⟨.seq (.reg c116r0) (.seq (.seq (.reg c116r1) (.cond (.t 9) (.seq (.reg c116r2) (.ret)) (.skip))) (.seq (.reg c116r3) (.ret))), [.tmp 4, .tmp 5], 15⟩
theorem cf116 : cfun Try.prog 116 = some c116 := by kernel_rfl

/-! ### internal/stringslite.HasPrefix, params 2 -/
def c117r0 : List AStm := [.op (some 4) none (.mv (.c (.bool false)))]
def c117r1 : List AStm := [.op (some 5) none (.mv (.t 0)),
    .op (some 6) none (.len true (.t 5)),
    .op (some 7) none (.mv (.t 1)),
    .op (some 8) none (.len true (.t 7)),
    .op (some 9) none (.bin .geq (.t 6) (.t 8)),
    .op (some 10) none (.mv (.t 9)),
    .op (some 11) (some (10, true)) (.mv (.t 0)),
    .op (some 12) (some (10, true)) (.mv (.t 1)),
    .op (some 13) (some (10, true)) (.len true (.t 12)),
    .op (some 14) (some (10, true)) (.sstr (.t 11) none (some (.t 13))),
    .op (some 15) (some (10, true)) (.mv (.t 1)),
    .op (some 16) (some (10, true)) (.bin .eql (.t 14) (.t 15)),
    .op (some 17) none (.pick (.t 10) (.t 16) (.c (.bool false))),
    .op (some 4) none (.mv (.t 17))]
def c117 : CF := ⟨.seq (.reg c117r0) (.seq (.reg c117r1) (.ret)), [.tmp 4], 18⟩
theorem cf117 : cfun Try.prog 117 = some c117 := by kernel_rfl


def orc07 : Ytodlpcoffmnmbaa.Callee := orcOf 69 textR noOrc
theorem orc07_ok : CallOk Try.prog orc07 := orcOf_ok textR_ok noOrc_ok
def live07_tab : List (FuncId × CF) := [(17, c17), (19, c19), (21, c21), (22, c22), (24, c24), (27, c27), (29, c29), (30, c30), (31, c31), (32, c32), (33, c33), (56, c56), (57, c57), (60, c60), (61, c61), (63, c63), (64, c64), (65, c65), (66, c66), (67, c67), (68, c68), (69, c69), (70, c70), (84, c84), (85, c85), (86, c86), (87, c87), (88, c88), (89, c89), (90, c90), (91, c91), (92, c92), (99, c99), (100, c100), (101, c101), (102, c102), (103, c103), (104, c104), (105, c105), (107, c107), (110, c110), (111, c111), (112, c112), (113, c113), (115, c115), (116, c116), (117, c117)]
theorem live07_ok : ∀ p ∈ live07_tab, cfun Try.prog p.1 = some p.2 := by
  intro p hp
  simp only [live07_tab, List.mem_cons, List.not_mem_nil, or_false] at hp
  rcases hp with rfl | rfl | rfl | rfl | rfl | rfl | rfl | rfl | rfl | rfl | rfl | rfl | rfl | rfl | rfl | rfl | rfl | rfl | rfl | rfl | rfl | rfl | rfl | rfl | rfl | rfl | rfl | rfl | rfl | rfl | rfl | rfl | rfl | rfl | rfl | rfl | rfl | rfl | rfl | rfl | rfl | rfl | rfl | rfl | rfl | rfl | rfl
  · exact cf17
  · exact cf19
  · exact cf21
  · exact cf22
  · exact cf24
  · exact cf27
  · exact cf29
  · exact cf30
  · exact cf31
  · exact cf32
  · exact cf33
  · exact cf56
  · exact cf57
  · exact cf60
  · exact cf61
  · exact cf63
  · exact cf64
  · exact cf65
  · exact cf66
  · exact cf67
  · exact cf68
  · exact cf69
  · exact cf70
  · exact cf84
  · exact cf85
  · exact cf86
  · exact cf87
  · exact cf88
  · exact cf89
  · exact cf90
  · exact cf91
  · exact cf92
  · exact cf99
  · exact cf100
  · exact cf101
  · exact cf102
  · exact cf103
  · exact cf104
  · exact cf105
  · exact cf107
  · exact cf110
  · exact cf111
  · exact cf112
  · exact cf113
  · exact cf115
  · exact cf116
  · exact cf117
theorem live07_run : saysTrue (callee orc07 (tabOf live07_tab) 400 21 [] []) = true := by kernel_rfl
theorem live07 (h : Heap) : FC Try.prog 21 [] h fun d h' => d = .bool true ∧ h' = h := live_of' hmix orc07_ok live07_ok live07_run rfl h

end Go.Proofs.L07
