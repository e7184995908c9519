/-
  Own work. What must be whatever is asked: live of layer 8, by a closed run.
-/
import Derived.Test.YtagklimaiognnaaWe
namespace Go.Proofs.L08
open Go Go.Ytagklimaiognnaa
set_option linter.unusedVariables false
set_option linter.unusedSimpArgs false
set_option maxRecDepth 10000

/-! ### weighbridge/span.Meet, params 2 -/
def c10r0 : List AStm := [.op (some 2) none (.box (.t 0)),
    .op (some 3) none (.box (.t 1)),
    .op (some 4) none (.alloc [(.int .i64 0), (.int .i64 0)]),
    .op (some 5) none (.mv (.c (.bool false)))]
def c10r1 : List AStm := [.op (some 7) none (.load (some 2) (.t 2)),
    .call (some 8) none (.c (.fn (.func 13) [] [])) [(.t 7)],
    .op (some 9) none (.bin .neq (.t 8) (.c (.int .i64 0))),
    .op (some 10) none (.mv (.t 9)),
    .op (some 11) (some (10, false)) (.load (some 2) (.t 3)),
    .call (some 12) (some (10, false)) (.c (.fn (.func 13) [] [])) [(.t 11)],
    .op (some 13) (some (10, false)) (.bin .neq (.t 12) (.c (.int .i64 0))),
    .op (some 14) none (.pick (.t 10) (.c (.bool true)) (.t 13))]
def c10r2 : List AStm := [.op (some 15) none (.build [(.int .i64 0), (.int .i64 0)] []),
    .op none none (.store 2 (.t 4) (.t 15)),
    .op (some 5) none (.mv (.c (.bool false)))]
def c10r3 : List AStm := [.op (some 16) none (.faddr 0 (.t 2)),
    .op (some 17) none (.load none (.t 16)),
    .op (some 18) none (.faddr 0 (.t 3)),
    .op (some 19) none (.load none (.t 18)),
    .op (some 20) none (.mnx true (.t 17) (.t 19)),
    .op (some 21) none (.faddr 1 (.t 2)),
    .op (some 22) none (.load none (.t 21)),
    .op (some 23) none (.faddr 1 (.t 3)),
    .op (some 24) none (.load none (.t 23)),
    .op (some 25) none (.mnx false (.t 22) (.t 24)),
    .op (some 26) none (.build [(.int .i64 0), (.int .i64 0)] [(0, 1, (.t 20)), (1, 1, (.t 25))]),
    .op (some 6) none (.alloc [(.int .i64 0), (.int .i64 0)]),
    .op none none (.store 2 (.t 6) (.t 26))]
def c10r4 : List AStm := [.op (some 27) none (.faddr 0 (.t 6)),
    .op (some 28) none (.load none (.t 27)),
    .op (some 29) none (.faddr 1 (.t 6)),
    .op (some 30) none (.load none (.t 29)),
    .op (some 31) none (.bin .gtr (.t 28) (.t 30))]
def c10r5 : List AStm := [.op (some 32) none (.build [(.int .i64 0), (.int .i64 0)] []),
    .op none none (.store 2 (.t 4) (.t 32)),
    .op (some 5) none (.mv (.c (.bool false)))]
def c10r6 : List AStm := [.op (some 33) none (.load (some 2) (.t 6)),
    .op none none (.store 2 (.t 4) (.t 33)),
    .op (some 5) none (.mv (.c (.bool true)))]
def c10 : CF := ⟨.seq (.reg c10r0) (.seq (.seq (.reg c10r1) (.cond (.t 14) (.seq (.reg c10r2) (.ret)) (.skip))) (.seq (.reg c10r3) (.seq (.seq (.reg c10r4) (.cond (.t 31) (.seq (.reg c10r5) (.ret)) (.skip))) (.seq (.reg c10r6) (.ret))))), [.cell 4 (some 2), .tmp 5], 34⟩
theorem cf10 : cfun Try.prog 10 = some c10 := by kernel_rfl

/-! ### weighbridge/weighbridgelaw08.live, params 0 -/
def c12r0 : List AStm := [.op (some 0) none (.mv (.c (.bool false)))]
def c12r1 : List AStm := [.call (some 16) none (.c (.fn (.func 17) [] [])) [(.c (.str (bs [49, 48, 45, 50, 48])))],
    .op (some 15) none (.mv (.t 16)),
    .op (some 17) none (.ext (.t 15) 0),
    .op (some 18) none (.ext (.t 15) 1),
    .op (some 1) none (.alloc [(.int .i64 0), (.int .i64 0)]),
    .op none none (.store 2 (.t 1) (.t 17)),
    .op (some 2) none (.mv (.t 18))]
def c12r2 : List AStm := [.call (some 20) none (.c (.fn (.func 17) [] [])) [(.c (.str (bs [50, 48, 45, 49, 48])))],
    .op (some 19) none (.mv (.t 20)),
    .op (some 21) none (.ext (.t 19) 0),
    .op (some 22) none (.ext (.t 19) 1),
    .op (some 3) none (.alloc [(.int .i64 0), (.int .i64 0)]),
    .op none none (.store 2 (.t 3) (.t 21)),
    .op (some 4) none (.mv (.t 22))]
def c12r3 : List AStm := [.call (some 24) none (.c (.fn (.func 17) [] [])) [(.c (.str (bs [54, 53, 53, 51, 54])))],
    .op (some 23) none (.mv (.t 24)),
    .op (some 25) none (.ext (.t 23) 0),
    .op (some 26) none (.ext (.t 23) 1),
    .op (some 5) none (.alloc [(.int .i64 0), (.int .i64 0)]),
    .op none none (.store 2 (.t 5) (.t 25)),
    .op (some 6) none (.mv (.t 26))]
def c12r4 : List AStm := [.call (some 28) none (.c (.fn (.func 17) [] [])) [(.c (.str (bs [49, 45, 50, 45, 51])))],
    .op (some 27) none (.mv (.t 28)),
    .op (some 29) none (.ext (.t 27) 0),
    .op (some 30) none (.ext (.t 27) 1),
    .op (some 7) none (.alloc [(.int .i64 0), (.int .i64 0)]),
    .op none none (.store 2 (.t 7) (.t 29)),
    .op (some 8) none (.mv (.t 30))]
def c12r5 : List AStm := [.op (some 32) none (.build [(.int .i64 0), (.int .i64 0)] [(0, 1, (.c (.int .i64 5))), (1, 1, (.c (.int .i64 9)))]),
    .op (some 33) none (.build [(.int .i64 0), (.int .i64 0)] [(0, 1, (.c (.int .i64 20))), (1, 1, (.c (.int .i64 30)))]),
    .op (some 34) none (.build [(.int .i64 0), (.int .i64 0)] [(0, 1, (.c (.int .i64 10))), (1, 1, (.c (.int .i64 12)))]),
    .op (some 35) none (.bslice 2 (List.replicate 6 (.int .i64 0)) 3 [(0, 2, (.t 32)), (2, 2, (.t 33)), (4, 2, (.t 34))]),
    .call (some 36) none (.c (.fn (.func 21) [] [])) [(.t 35)],
    .op (some 31) none (.mv (.t 36)),
    .op (some 37) none (.ext (.t 31) 0),
    .op (some 38) none (.ext (.t 31) 1),
    .op (some 9) none (.mv (.t 37)),
    .op (some 10) none (.mv (.t 38))]
def c12r6 : List AStm := [.op (some 40) none (.build [(.int .i64 0), (.int .i64 0)] [(0, 1, (.c (.int .i64 5))), (1, 1, (.c (.int .i64 9)))]),
    .op (some 41) none (.bslice 2 [(.int .i64 0), (.int .i64 0)] 1 [(0, 2, (.t 40))]),
    .call (some 42) none (.c (.fn (.func 23) [] [])) [(.t 41)],
    .op (some 39) none (.mv (.t 42)),
    .op (some 43) none (.ext (.t 39) 0),
    .op (some 44) none (.ext (.t 39) 1),
    .op (some 11) none (.mv (.t 43)),
    .op (some 12) none (.mv (.t 44))]
def c12r7 : List AStm := [.op (some 46) none (.load (some 2) (.t 1)),
    .op (some 47) none (.build [(.int .i64 0), (.int .i64 0)] [(0, 1, (.c (.int .i64 15))), (1, 1, (.c (.int .i64 99)))]),
    .call (some 48) none (.c (.fn (.func 10) [] [])) [(.t 46), (.t 47)],
    .op (some 45) none (.mv (.t 48)),
    .op (some 49) none (.ext (.t 45) 0),
    .op (some 50) none (.ext (.t 45) 1),
    .op (some 13) none (.alloc [(.int .i64 0), (.int .i64 0)]),
    .op none none (.store 2 (.t 13) (.t 49)),
    .op (some 14) none (.mv (.t 50))]
def c12r8 : List AStm := [.op (some 51) none (.mv (.t 2)),
    .op (some 52) none (.bin .eql (.t 51) (.c (.int .i64 0))),
    .op (some 53) none (.mv (.t 52)),
    .op (some 54) (some (53, true)) (.load (some 2) (.t 1)),
    .op (some 55) (some (53, true)) (.build [(.int .i64 0), (.int .i64 0)] [(0, 1, (.c (.int .i64 10))), (1, 1, (.c (.int .i64 20)))]),
    .op (some 56) (some (53, true)) (.eqa false [.ki, .ki] (.t 54) (.t 55)),
    .op (some 57) none (.pick (.t 53) (.t 56) (.c (.bool false))),
    .op (some 58) none (.mv (.t 57)),
    .op (some 59) (some (58, true)) (.mv (.t 4)),
    .op (some 60) (some (58, true)) (.bin .eql (.t 59) (.c (.int .i64 6))),
    .op (some 61) none (.pick (.t 58) (.t 60) (.c (.bool false))),
    .op (some 62) none (.mv (.t 61)),
    .op (some 63) (some (62, true)) (.mv (.t 6)),
    .op (some 64) (some (62, true)) (.bin .eql (.t 63) (.c (.int .i64 1))),
    .op (some 65) none (.pick (.t 62) (.t 64) (.c (.bool false))),
    .op (some 66) none (.mv (.t 65)),
    .op (some 67) (some (66, true)) (.mv (.t 8)),
    .op (some 68) (some (66, true)) (.bin .eql (.t 67) (.c (.int .i64 3))),
    .op (some 69) none (.pick (.t 66) (.t 68) (.c (.bool false))),
    .op (some 70) none (.mv (.t 69)),
    .op (some 71) (some (70, true)) (.mv (.t 10)),
    .op (some 72) (some (70, true)) (.bin .eql (.t 71) (.c (.int .i64 0))),
    .op (some 73) none (.pick (.t 70) (.t 72) (.c (.bool false))),
    .op (some 74) none (.mv (.t 73)),
    .op (some 75) (some (74, true)) (.mv (.t 9)),
    .op (some 76) (some (74, true)) (.build [(.int .i64 0), (.int .i64 0)] [(0, 1, (.c (.int .i64 5))), (1, 1, (.c (.int .i64 12)))]),
    .op (some 77) (some (74, true)) (.build [(.int .i64 0), (.int .i64 0)] [(0, 1, (.c (.int .i64 20))), (1, 1, (.c (.int .i64 30)))]),
    .op (some 78) (some (74, true)) (.bslice 2 (List.replicate 4 (.int .i64 0)) 2 [(0, 2, (.t 76)), (2, 2, (.t 77))]),
    .call (some 79) (some (74, true)) (.c (.fn (.func 25) [] [])) [(.t 75), (.t 78)],
    .op (some 80) none (.pick (.t 74) (.t 79) (.c (.bool false))),
    .op (some 81) none (.mv (.t 80)),
    .op (some 82) (some (81, true)) (.mv (.t 12)),
    .op (some 83) (some (81, true)) (.bin .eql (.t 82) (.c (.int .i64 0))),
    .op (some 84) none (.pick (.t 81) (.t 83) (.c (.bool false))),
    .op (some 85) none (.mv (.t 84)),
    .op (some 86) (some (85, true)) (.mv (.t 11)),
    .op (some 87) (some (85, true)) (.bslice 1 [(.int .i64 0), (.int .i64 0), (.int .i64 0)] 3 [(0, 1, (.c (.int .i64 0))), (1, 1, (.c (.int .i64 5))), (2, 1, (.c (.int .i64 10)))]),
    .call (some 88) (some (85, true)) (.c (.fn (.func 26) [] [])) [(.t 86), (.t 87)],
    .op (some 89) none (.pick (.t 85) (.t 88) (.c (.bool false))),
    .op (some 90) none (.mv (.t 89)),
    .op (some 91) (some (90, true)) (.mv (.t 14)),
    .op (some 92) none (.pick (.t 90) (.t 91) (.c (.bool false))),
    .op (some 93) none (.mv (.t 92)),
    .op (some 94) (some (93, true)) (.load (some 2) (.t 13)),
    .op (some 95) (some (93, true)) (.build [(.int .i64 0), (.int .i64 0)] [(0, 1, (.c (.int .i64 15))), (1, 1, (.c (.int .i64 20)))]),
    .op (some 96) (some (93, true)) (.eqa false [.ki, .ki] (.t 94) (.t 95)),
    .op (some 97) none (.pick (.t 93) (.t 96) (.c (.bool false))),
    .op (some 98) none (.mv (.t 97)),
    .call (some 99) (some (98, true)) (.c (.fn (.func 41) [] [])) [],
    .call (some 100) (some (98, true)) (.c (.fn (.func 19) [] [])) [(.t 99)],
    .op (some 101) (some (98, true)) (.bin .eql (.t 100) (.c (.str (bs [42])))),
    .op (some 102) none (.pick (.t 98) (.t 101) (.c (.bool false))),
    .op (some 103) none (.mv (.t 102)),
    .op (some 104) (some (103, true)) (.load (some 2) (.t 13)),
    .call (some 105) (some (103, true)) (.c (.fn (.func 19) [] [])) [(.t 104)],
    .op (some 106) (some (103, true)) (.bin .eql (.t 105) (.c (.str (bs [49, 53, 45, 50, 48])))),
    .op (some 107) none (.pick (.t 103) (.t 106) (.c (.bool false))),
    .op (some 108) none (.mv (.t 107)),
    .op (some 109) (some (108, true)) (.load (some 2) (.t 13)),
    .call (some 110) (some (108, true)) (.c (.fn (.func 15) [] [])) [(.t 109), (.c (.int .i64 20))],
    .op (some 111) none (.pick (.t 108) (.t 110) (.c (.bool false))),
    .op (some 112) none (.mv (.t 111)),
    .op (some 113) (some (112, true)) (.load (some 2) (.t 13)),
    .call (some 114) (some (112, true)) (.c (.fn (.func 15) [] [])) [(.t 113), (.c (.int .i64 21))],
    .op (some 115) (some (112, true)) (.un .not (.t 114)),
    .op (some 116) none (.pick (.t 112) (.t 115) (.c (.bool false))),
    .op (some 117) none (.mv (.t 116)),
    .op (some 118) (some (117, true)) (.build [(.int .i64 0), (.int .i64 0)] [(0, 1, (.c (.int .i64 (-1))))]),
    .call (some 119) (some (117, true)) (.c (.fn (.func 13) [] [])) [(.t 118)],
    .op (some 120) (some (117, true)) (.bin .eql (.t 119) (.c (.int .i64 1))),
    .op (some 121) none (.pick (.t 117) (.t 120) (.c (.bool false))),
    .op (some 0) none (.mv (.t 121))]
def c12 : CF := ⟨.seq (.reg c12r0) (.seq (.reg c12r1) (.seq (.reg c12r2) (.seq (.reg c12r3) (.seq (.reg c12r4) (.seq (.reg c12r5) (.seq (.reg c12r6) (.seq (.reg c12r7) (.seq (.reg c12r8) (.ret))))))))), [.tmp 0], 122⟩
theorem cf12 : cfun Try.prog 12 = some c12 := by kernel_rfl

/-! ### weighbridge/span.Check, params 1 -/
def c13r0 : List AStm := [.op (some 1) none (.box (.t 0)),
    .op (some 2) none (.mv (.c (.int .i64 0)))]
def c13r1 : List AStm := [.op (some 4) none (.faddr 0 (.t 1)),
    .op (some 5) none (.load none (.t 4)),
    .call (some 6) none (.c (.fn (.func 43) [] [])) [(.t 5)],
    .op (some 7) none (.un .not (.t 6)),
    .op (some 8) none (.mv (.t 7)),
    .op (some 9) (some (8, false)) (.faddr 1 (.t 1)),
    .op (some 10) (some (8, false)) (.load none (.t 9)),
    .call (some 11) (some (8, false)) (.c (.fn (.func 43) [] [])) [(.t 10)],
    .op (some 12) (some (8, false)) (.un .not (.t 11)),
    .op (some 13) none (.pick (.t 8) (.c (.bool true)) (.t 12)),
    .op (some 3) none (.mv (.t 13))]
def c13r2 : List AStm := [.op (some 2) none (.mv (.c (.int .i64 1)))]
def c13r3 : List AStm := [.op (some 15) none (.faddr 0 (.t 1)),
    .op (some 16) none (.load none (.t 15)),
    .op (some 17) none (.faddr 1 (.t 1)),
    .op (some 18) none (.load none (.t 17)),
    .op (some 19) none (.bin .gtr (.t 16) (.t 18)),
    .op (some 14) none (.mv (.t 19))]
def c13r4 : List AStm := [.op (some 2) none (.mv (.c (.int .i64 6)))]
def c13r5 : List AStm := [.op (some 2) none (.mv (.c (.int .i64 0)))]
def c13 : CF := ⟨.seq (.reg c13r0) (.seq (.block 0 (.seq (.reg c13r1) (.cond (.t 3) (.seq (.reg c13r2) (.ret)) (.seq (.reg c13r3) (.cond (.t 14) (.seq (.reg c13r4) (.ret)) (.skip)))))) (.seq (.reg c13r5) (.ret))), [.tmp 2], 20⟩
theorem cf13 : cfun Try.prog 13 = some c13 := by kernel_rfl

/-! ### weighbridge/span.Has, params 2 -/
def c15r0 : List AStm := [.op (some 2) none (.box (.t 0)),
    .op (some 4) none (.mv (.c (.bool false)))]
def c15r1 : List AStm := [.op (some 5) none (.load (some 2) (.t 2)),
    .call (some 6) none (.c (.fn (.func 13) [] [])) [(.t 5)],
    .op (some 7) none (.bin .eql (.t 6) (.c (.int .i64 0))),
    .op (some 8) none (.mv (.t 7)),
    .op (some 9) (some (8, true)) (.mv (.t 1)),
    .op (some 10) (some (8, true)) (.faddr 0 (.t 2)),
    .op (some 11) (some (8, true)) (.load none (.t 10)),
    .op (some 12) (some (8, true)) (.bin .geq (.t 9) (.t 11)),
    .op (some 13) none (.pick (.t 8) (.t 12) (.c (.bool false))),
    .op (some 14) none (.mv (.t 13)),
    .op (some 15) (some (14, true)) (.mv (.t 1)),
    .op (some 16) (some (14, true)) (.faddr 1 (.t 2)),
    .op (some 17) (some (14, true)) (.load none (.t 16)),
    .op (some 18) (some (14, true)) (.bin .leq (.t 15) (.t 17)),
    .op (some 19) none (.pick (.t 14) (.t 18) (.c (.bool false))),
    .op (some 4) none (.mv (.t 19))]
def c15 : CF := ⟨.seq (.reg c15r0) (.seq (.reg c15r1) (.ret)), [.tmp 4], 20⟩
theorem cf15 : cfun Try.prog 15 = some c15 := by kernel_rfl

/-! ### weighbridge/span.Parse, params 1 -/
def c17r0 : List AStm := [.op (some 2) none (.alloc [(.int .i64 0), (.int .i64 0)]),
    .op (some 3) none (.mv (.c (.int .i64 0)))]
def c17r1 : List AStm := [.op (some 13) none (.mv (.t 0)),
    .op (some 14) none (.bin .eql (.t 13) (.c (.str (bs [42]))))]
def c17r2 : List AStm := [.call (some 15) none (.c (.fn (.func 41) [] [])) [],
    .op none none (.store 2 (.t 2) (.t 15)),
    .op (some 3) none (.mv (.c (.int .i64 0)))]
def c17r3 : List AStm := [.op (some 17) none (.mv (.t 0)),
    .call (some 18) none (.c (.fn (.func 44) [] [])) [(.t 17), (.c (.str (bs [45])))],
    .op (some 16) none (.mv (.t 18)),
    .op (some 19) none (.ext (.t 16) 0),
    .op (some 20) none (.ext (.t 16) 1),
    .op (some 21) none (.ext (.t 16) 2),
    .op (some 4) none (.mv (.t 19)),
    .op (some 5) none (.mv (.t 20)),
    .op (some 6) none (.mv (.t 21))]
def c17r4 : List AStm := [.op (some 22) none (.mv (.t 6)),
    .op (some 23) none (.un .not (.t 22))]
def c17r5 : List AStm := [.op (some 24) none (.mv (.t 4)),
    .op (some 5) none (.mv (.t 24))]
def c17r6 : List AStm := [.op (some 26) none (.mv (.t 4)),
    .call (some 27) none (.c (.fn (.func 45) [] [])) [(.t 26)],
    .op (some 25) none (.mv (.t 27)),
    .op (some 28) none (.ext (.t 25) 0),
    .op (some 29) none (.ext (.t 25) 1),
    .op (some 7) none (.mv (.t 28)),
    .op (some 8) none (.mv (.t 29))]
def c17r7 : List AStm := [.op (some 31) none (.mv (.t 5)),
    .call (some 32) none (.c (.fn (.func 45) [] [])) [(.t 31)],
    .op (some 30) none (.mv (.t 32)),
    .op (some 33) none (.ext (.t 30) 0),
    .op (some 34) none (.ext (.t 30) 1),
    .op (some 9) none (.mv (.t 33)),
    .op (some 10) none (.mv (.t 34))]
def c17r8 : List AStm := [.op (some 35) none (.mv (.t 8)),
    .op (some 36) none (.un .not (.t 35)),
    .op (some 37) none (.mv (.t 36)),
    .op (some 38) (some (37, false)) (.mv (.t 10)),
    .op (some 39) (some (37, false)) (.un .not (.t 38)),
    .op (some 40) none (.pick (.t 37) (.c (.bool true)) (.t 39))]
def c17r9 : List AStm := [.op (some 41) none (.build [(.int .i64 0), (.int .i64 0)] []),
    .op none none (.store 2 (.t 2) (.t 41)),
    .op (some 3) none (.mv (.c (.int .i64 3)))]
def c17r10 : List AStm := [.op (some 42) none (.mv (.t 7)),
    .op (some 43) none (.mv (.t 9)),
    .op (some 44) none (.build [(.int .i64 0), (.int .i64 0)] [(0, 1, (.t 42)), (1, 1, (.t 43))]),
    .op (some 11) none (.alloc [(.int .i64 0), (.int .i64 0)]),
    .op none none (.store 2 (.t 11) (.t 44))]
def c17r11 : List AStm := [.op (some 45) none (.load (some 2) (.t 11)),
    .call (some 46) none (.c (.fn (.func 13) [] [])) [(.t 45)],
    .op (some 12) none (.mv (.t 46))]
def c17r12 : List AStm := [.op (some 47) none (.mv (.t 12)),
    .op (some 48) none (.bin .neq (.t 47) (.c (.int .i64 0)))]
def c17r13 : List AStm := [.op (some 49) none (.build [(.int .i64 0), (.int .i64 0)] []),
    .op (some 50) none (.mv (.t 12)),
    .op none none (.store 2 (.t 2) (.t 49)),
    .op (some 3) none (.mv (.t 50))]
def c17r14 : List AStm := [.op (some 51) none (.load (some 2) (.t 11)),
    .op none none (.store 2 (.t 2) (.t 51)),
    .op (some 3) none (.mv (.c (.int .i64 0)))]
def c17 : CF := ⟨.seq (.reg c17r0) (.seq (.seq (.reg c17r1) (.cond (.t 14) (.seq (.reg c17r2) (.ret)) (.skip))) (.seq (.reg c17r3) (.seq (.seq (.reg c17r4) (.cond (.t 23) (.reg c17r5) (.skip))) (.seq (.reg c17r6) (.seq (.reg c17r7) (.seq (.seq (.reg c17r8) (.cond (.t 40) (.seq (.reg c17r9) (.ret)) (.skip))) (.seq (.reg c17r10) (.seq (.seq (.reg c17r11) (.seq (.reg c17r12) (.cond (.t 48) (.seq (.reg c17r13) (.ret)) (.skip)))) (.seq (.reg c17r14) (.ret)))))))))), [.cell 2 (some 2), .tmp 3], 52⟩
theorem cf17 : cfun Try.prog 17 = some c17 := by kernel_rfl

/-! ### weighbridge/span.Print, params 1 -/
def c19r0 : List AStm := [.op (some 1) none (.box (.t 0)),
    .op (some 2) none (.mv (.c (.str (bs []))))]
def c19r1 : List AStm := [.op (some 4) none (.load (some 2) (.t 1)),
    .call (some 5) none (.c (.fn (.func 13) [] [])) [(.t 4)],
    .op (some 6) none (.bin .neq (.t 5) (.c (.int .i64 0)))]
def c19r2 : List AStm := [.op (some 2) none (.mv (.c (.str (bs []))))]
def c19r3 : List AStm := [.op (some 3) none (.mv (.c (.fn (.func 48) [] [])))]
def c19r4 : List AStm := []
def c19r5 : List AStm := [.op (some 8) none (.load (some 2) (.t 1)),
    .callG (some 9) none (.c (.fn (.func 41) [] [])) [],
    .op (some 10) none (.eqa false [.ki, .ki] (.t 8) (.t 9)),
    .op (some 7) none (.mv (.t 10))]
def c19r6 : List AStm := [.op (some 2) none (.mv (.c (.str (bs [42]))))]
def c19r7 : List AStm := [.op (some 12) none (.faddr 0 (.t 1)),
    .op (some 13) none (.load none (.t 12)),
    .op (some 14) none (.faddr 1 (.t 1)),
    .op (some 15) none (.load none (.t 14)),
    .op (some 16) none (.bin .eql (.t 13) (.t 15)),
    .op (some 11) none (.mv (.t 16))]
def c19r8 : List AStm := [.op (some 17) none (.mv (.t 3)),
    .op (some 18) none (.faddr 0 (.t 1)),
    .op (some 19) none (.load none (.t 18)),
    .call (some 20) none (.t 17) [(.t 19)],
    .op (some 2) none (.mv (.t 20))]
def c19r9 : List AStm := []
def c19r10 : List AStm := [.op (some 21) none (.mv (.t 3)),
    .op (some 22) none (.faddr 0 (.t 1)),
    .op (some 23) none (.load none (.t 22)),
    .op (some 26) none (.mv (.t 3)),
    .op (some 27) none (.faddr 1 (.t 1)),
    .op (some 28) none (.load none (.t 27)),
    .callG (some 24) none (.t 21) [(.t 23)],
    .op (some 25) none (.bin .add (.t 24) (.c (.str (bs [45])))),
    .callG (some 29) none (.t 26) [(.t 28)],
    .op (some 30) none (.bin .add (.t 25) (.t 29)),
    .op (some 2) none (.mv (.t 30))]
def c19 : CF := ⟨.seq (.reg c19r0) (.seq (.seq (.reg c19r1) (.cond (.t 6) (.seq (.reg c19r2) (.ret)) (.skip))) (.seq (.reg c19r3) (.seq (.block 0 (.seq (.dreg c19r4 c19r5) (.cond (.t 7) (.seq (.reg c19r6) (.ret)) (.seq (.reg c19r7) (.cond (.t 11) (.seq (.reg c19r8) (.ret)) (.skip)))))) (.seq (.dreg c19r9 c19r10) (.ret))))), [.tmp 2], 31⟩
theorem cf19 : cfun Try.prog 19 = some c19 := by kernel_rfl

/-! ### weighbridge/span.Union, params 1 -/
def c21r0 : List AStm := [.op (some 2) none (.mv (.c .nils)),
    .op (some 3) none (.mv (.c (.int .i64 0)))]
def c21r1 : List AStm := [.op (some 10) none (.mv (.t 0)),
    .call (some 11) none (.c (.fn (.func 52) [] [])) [(.t 10)],
    .op (some 4) none (.mv (.t 11))]
def c21r2 : List AStm := [.op (some 12) none (.mv (.t 4)),
    .op (some 13) none (.bin .neq (.t 12) (.c (.int .i64 0)))]
def c21r3 : List AStm := [.op (some 14) none (.mv (.t 4)),
    .op (some 2) none (.mv (.c .nils)),
    .op (some 3) none (.mv (.t 14))]
def c21r4 : List AStm := [.op (some 15) none (.mv (.t 0)),
    .call (some 16) none (.c (.fn (.func 53) [] [])) [(.t 15)],
    .op (some 5) none (.mv (.t 16))]
def c21r5 : List AStm := [.op (some 17) none (.mv (.t 5)),
    .call (some 18) none (.c (.fn (.func 54) [] [])) [(.t 17), (.c (.fn (.func 55) [] []))]]
def c21r6 : List AStm := [.op (some 6) none (.mv (.c .nils))]
def c21r7 : List AStm := [.op (some 19) none (.mv (.t 5)),
    .op (some 20) none (.len false (.t 19)),
    .op (some 21) none (.mv (.c (.int .i64 0)))]
def c21r8 : List AStm := [.op (some 22) none (.bin .lss (.t 21) (.t 20))]
def c21r9 : List AStm := [.op (some 23) none (.ixs 2 (.t 19) (.t 21)),
    .op (some 24) none (.load (some 2) (.t 23)),
    .op (some 8) none (.alloc [(.int .i64 0), (.int .i64 0)]),
    .op none none (.store 2 (.t 8) (.t 24))]
def c21r10 : List AStm := [.op (some 25) none (.mv (.t 6)),
    .op (some 26) none (.len false (.t 25)),
    .op (some 9) none (.mv (.t 26))]
def c21r11 : List AStm := [.op (some 27) none (.mv (.t 9)),
    .op (some 28) none (.bin .gtr (.t 27) (.c (.int .i64 0))),
    .op (some 29) none (.mv (.t 28)),
    .op (some 30) (some (29, true)) (.faddr 0 (.t 8)),
    .op (some 31) (some (29, true)) (.load none (.t 30)),
    .op (some 32) (some (29, true)) (.mv (.t 6)),
    .op (some 33) (some (29, true)) (.mv (.t 9)),
    .op (some 34) (some (29, true)) (.bin .sub (.t 33) (.c (.int .i64 1))),
    .op (some 35) (some (29, true)) (.ixs 2 (.t 32) (.t 34)),
    .op (some 36) (some (29, true)) (.faddr 1 (.t 35)),
    .op (some 37) (some (29, true)) (.load none (.t 36)),
    .op (some 38) (some (29, true)) (.bin .add (.t 37) (.c (.int .i64 1))),
    .op (some 39) (some (29, true)) (.bin .leq (.t 31) (.t 38)),
    .op (some 40) none (.pick (.t 29) (.t 39) (.c (.bool false)))]
def c21r12 : List AStm := []
def c21r13 : List AStm := [.op (some 41) none (.mv (.t 6)),
    .op (some 42) none (.mv (.t 9)),
    .op (some 43) none (.bin .sub (.t 42) (.c (.int .i64 1))),
    .op (some 44) none (.mv (.t 6)),
    .op (some 45) none (.mv (.t 9)),
    .op (some 46) none (.bin .sub (.t 45) (.c (.int .i64 1))),
    .op (some 47) none (.ixs 2 (.t 44) (.t 46)),
    .op (some 48) none (.faddr 1 (.t 47)),
    .op (some 49) none (.load none (.t 48)),
    .op (some 50) none (.faddr 1 (.t 8)),
    .op (some 51) none (.load none (.t 50)),
    .op (some 52) none (.mnx true (.t 49) (.t 51)),
    .op (some 53) none (.ixs 2 (.t 41) (.t 43)),
    .op (some 54) none (.faddr 1 (.t 53)),
    .op none none (.store 1 (.t 54) (.t 52))]
def c21r14 : List AStm := []
def c21r15 : List AStm := [.op (some 55) none (.mv (.t 6)),
    .op (some 56) none (.load (some 2) (.t 8)),
    .op (some 57) none (.bslice 2 [(.int .i64 0), (.int .i64 0)] 1 [(0, 2, (.t 56))]),
    .op (some 58) none (.append false 2 16 (.t 55) (.t 57)),
    .op (some 6) none (.mv (.t 58))]
def c21r16 : List AStm := [.op (some 59) none (.bin .add (.t 21) (.c (.int .i64 1))),
    .op (some 21) none (.mv (.t 59))]
def c21l17 : AC := .seq (.reg c21r8) (.seq (.cond (.t 22) (.skip) (.exit 0)) (.seq (.block 1 (.seq (.reg c21r9) (.seq (.seq (.reg c21r10) (.seq (.dreg c21r11 c21r12) (.cond (.t 40) (.seq (.dreg c21r13 c21r14) (.exit 1)) (.skip)))) (.reg c21r15)))) (.reg c21r16)))
def c21r18 : List AStm := [.op (some 60) none (.mv (.t 6)),
    .op (some 2) none (.mv (.t 60)),
    .op (some 3) none (.mv (.c (.int .i64 0)))]
def c21 : CF := ⟨.seq (.reg c21r0) (.seq (.seq (.reg c21r1) (.seq (.reg c21r2) (.cond (.t 13) (.seq (.reg c21r3) (.ret)) (.skip)))) (.seq (.reg c21r4) (.seq (.reg c21r5) (.seq (.reg c21r6) (.seq (.seq (.reg c21r7) (.block 0 (.loop c21l17))) (.seq (.reg c21r18) (.ret))))))), [.tmp 2, .tmp 3], 61⟩
theorem cf21 : cfun Try.prog 21 = some c21 := by kernel_rfl

/-! ### weighbridge/span.Starts, params 1 -/
def c23r0 : List AStm := [.op (some 2) none (.mv (.c .nils)),
    .op (some 3) none (.mv (.c (.int .i64 0)))]
def c23r1 : List AStm := [.op (some 9) none (.mv (.t 0)),
    .call (some 10) none (.c (.fn (.func 52) [] [])) [(.t 9)],
    .op (some 4) none (.mv (.t 10))]
def c23r2 : List AStm := [.op (some 11) none (.mv (.t 4)),
    .op (some 12) none (.bin .neq (.t 11) (.c (.int .i64 0)))]
def c23r3 : List AStm := [.op (some 13) none (.mv (.t 4)),
    .op (some 2) none (.mv (.c .nils)),
    .op (some 3) none (.mv (.t 13))]
def c23r4 : List AStm := [.op (some 14) none (.bslice 1 [(.int .i64 0)] 1 [(0, 1, (.c (.int .i64 0)))]),
    .op (some 5) none (.alloc [.nils]),
    .op none none (.store 1 (.t 5) (.t 14))]
def c23r5 : List AStm := [.op (some 15) none (.mkfn (.func 58) [] [(.t 5)]),
    .op (some 6) none (.mv (.t 15))]
def c23r6 : List AStm := [.op (some 16) none (.mv (.t 0)),
    .op (some 17) none (.len false (.t 16)),
    .op (some 18) none (.mv (.c (.int .i64 0)))]
def c23r7 : List AStm := [.op (some 19) none (.bin .lss (.t 18) (.t 17))]
def c23r8 : List AStm := [.op (some 20) none (.ixs 2 (.t 16) (.t 18)),
    .op (some 21) none (.load (some 2) (.t 20)),
    .op (some 8) none (.alloc [(.int .i64 0), (.int .i64 0)]),
    .op none none (.store 2 (.t 8) (.t 21))]
def c23r9 : List AStm := [.op (some 22) none (.mv (.t 6)),
    .op (some 23) none (.faddr 0 (.t 8)),
    .op (some 24) none (.load none (.t 23)),
    .call (some 25) none (.t 22) [(.t 24)]]
def c23r10 : List AStm := [.op (some 26) none (.mv (.t 6)),
    .op (some 27) none (.faddr 1 (.t 8)),
    .op (some 28) none (.load none (.t 27)),
    .op (some 29) none (.bin .add (.t 28) (.c (.int .i64 1))),
    .call (some 30) none (.t 26) [(.t 29)]]
def c23r11 : List AStm := [.op (some 31) none (.bin .add (.t 18) (.c (.int .i64 1))),
    .op (some 18) none (.mv (.t 31))]
def c23l12 : AC := .seq (.reg c23r7) (.seq (.cond (.t 19) (.skip) (.exit 0)) (.seq (.block 1 (.seq (.reg c23r8) (.seq (.reg c23r9) (.reg c23r10)))) (.reg c23r11)))
def c23r13 : List AStm := [.op (some 32) none (.load none (.t 5)),
    .call (some 33) none (.c (.fn (.func 59) [] [])) [(.t 32)]]
def c23r14 : List AStm := [.op (some 34) none (.load none (.t 5)),
    .call (some 35) none (.c (.fn (.func 60) [] [])) [(.t 34)],
    .op (some 2) none (.mv (.t 35)),
    .op (some 3) none (.mv (.c (.int .i64 0)))]
def c23 : CF := ⟨.seq (.reg c23r0) (.seq (.seq (.reg c23r1) (.seq (.reg c23r2) (.cond (.t 12) (.seq (.reg c23r3) (.ret)) (.skip)))) (.seq (.reg c23r4) (.seq (.reg c23r5) (.seq (.seq (.reg c23r6) (.block 0 (.loop c23l12))) (.seq (.reg c23r13) (.seq (.reg c23r14) (.ret))))))), [.tmp 2, .tmp 3], 36⟩
theorem cf23 : cfun Try.prog 23 = some c23 := by kernel_rfl

/-! ### weighbridge/weighbridgeref08.Same, params 2 -/
def c25r0 : List AStm := [.op (some 4) none (.mv (.c (.bool false)))]
def c25r1 : List AStm := [.op (some 6) none (.mv (.t 0)),
    .op (some 7) none (.len false (.t 6)),
    .op (some 8) none (.mv (.t 1)),
    .op (some 9) none (.len false (.t 8)),
    .op (some 10) none (.bin .neq (.t 7) (.t 9))]
def c25r2 : List AStm := [.op (some 4) none (.mv (.c (.bool false)))]
def c25r3 : List AStm := [.op (some 5) none (.mv (.c (.int .i64 0)))]
def c25r4 : List AStm := [.op (some 11) none (.mv (.t 5)),
    .op (some 12) none (.mv (.t 0)),
    .op (some 13) none (.len false (.t 12)),
    .op (some 14) none (.bin .lss (.t 11) (.t 13))]
def c25r5 : List AStm := [.op (some 17) none (.mv (.t 0)),
    .op (some 18) none (.mv (.t 5)),
    .op (some 19) none (.ixs 2 (.t 17) (.t 18)),
    .op (some 20) none (.load (some 2) (.t 19)),
    .op (some 21) none (.mv (.t 1)),
    .op (some 22) none (.mv (.t 5)),
    .op (some 23) none (.ixs 2 (.t 21) (.t 22)),
    .op (some 24) none (.load (some 2) (.t 23)),
    .op (some 25) none (.eqa true [.ki, .ki] (.t 20) (.t 24))]
def c25r6 : List AStm := []
def c25r7 : List AStm := [.op (some 4) none (.mv (.c (.bool false)))]
def c25r8 : List AStm := [.op (some 15) none (.mv (.t 5)),
    .op (some 16) none (.bin .add (.t 15) (.c (.int .i64 1))),
    .op (some 5) none (.mv (.t 16))]
def c25l9 : AC := .seq (.seq (.reg c25r4) (.cond (.t 14) (.skip) (.exit 0))) (.seq (.block 1 (.seq (.dreg c25r5 c25r6) (.cond (.t 25) (.seq (.reg c25r7) (.ret)) (.skip)))) (.reg c25r8))
def c25r10 : List AStm := [.op (some 4) none (.mv (.c (.bool true)))]
def c25 : CF := ⟨.seq (.reg c25r0) (.seq (.seq (.reg c25r1) (.cond (.t 10) (.seq (.reg c25r2) (.ret)) (.skip))) (.seq (.seq (.reg c25r3) (.block 0 (.loop c25l9))) (.seq (.reg c25r10) (.ret)))), [.tmp 4], 26⟩
theorem cf25 : cfun Try.prog 25 = some c25 := by kernel_rfl

/-! ### weighbridge/weighbridgeref08.SameInts, params 2 -/
def c26r0 : List AStm := [.op (some 4) none (.mv (.c (.bool false)))]
def c26r1 : List AStm := [.op (some 6) none (.mv (.t 0)),
    .op (some 7) none (.len false (.t 6)),
    .op (some 8) none (.mv (.t 1)),
    .op (some 9) none (.len false (.t 8)),
    .op (some 10) none (.bin .neq (.t 7) (.t 9))]
def c26r2 : List AStm := [.op (some 4) none (.mv (.c (.bool false)))]
def c26r3 : List AStm := [.op (some 5) none (.mv (.c (.int .i64 0)))]
def c26r4 : List AStm := [.op (some 11) none (.mv (.t 5)),
    .op (some 12) none (.mv (.t 0)),
    .op (some 13) none (.len false (.t 12)),
    .op (some 14) none (.bin .lss (.t 11) (.t 13))]
def c26r5 : List AStm := [.op (some 17) none (.mv (.t 0)),
    .op (some 18) none (.mv (.t 5)),
    .op (some 19) none (.ixs 1 (.t 17) (.t 18)),
    .op (some 20) none (.load none (.t 19)),
    .op (some 21) none (.mv (.t 1)),
    .op (some 22) none (.mv (.t 5)),
    .op (some 23) none (.ixs 1 (.t 21) (.t 22)),
    .op (some 24) none (.load none (.t 23)),
    .op (some 25) none (.bin .neq (.t 20) (.t 24))]
def c26r6 : List AStm := []
def c26r7 : List AStm := [.op (some 4) none (.mv (.c (.bool false)))]
def c26r8 : List AStm := [.op (some 15) none (.mv (.t 5)),
    .op (some 16) none (.bin .add (.t 15) (.c (.int .i64 1))),
    .op (some 5) none (.mv (.t 16))]
def c26l9 : AC := .seq (.seq (.reg c26r4) (.cond (.t 14) (.skip) (.exit 0))) (.seq (.block 1 (.seq (.dreg c26r5 c26r6) (.cond (.t 25) (.seq (.reg c26r7) (.ret)) (.skip)))) (.reg c26r8))
def c26r10 : List AStm := [.op (some 4) none (.mv (.c (.bool true)))]
def c26 : CF := ⟨.seq (.reg c26r0) (.seq (.seq (.reg c26r1) (.cond (.t 10) (.seq (.reg c26r2) (.ret)) (.skip))) (.seq (.seq (.reg c26r3) (.block 0 (.loop c26l9))) (.seq (.reg c26r10) (.ret)))), [.tmp 4], 26⟩
theorem cf26 : cfun Try.prog 26 = some c26 := by kernel_rfl

/-! ### weighbridge/span.All, params 0 -/
def c41r0 : List AStm := [.op (some 0) none (.alloc [(.int .i64 0), (.int .i64 0)])]
def c41r1 : List AStm := [.op (some 1) none (.build [(.int .i64 0), (.int .i64 0)] [(1, 1, (.c (.int .i64 65535)))]),
    .op none none (.store 2 (.t 0) (.t 1))]
def c41 : CF := ⟨.seq (.reg c41r0) (.seq (.reg c41r1) (.ret)), [.cell 0 (some 2)], 2⟩
theorem cf41 : cfun Try.prog 41 = some c41 := by kernel_rfl

/-! ### weighbridge/span.is, params 1 -/
def c43r0 : List AStm := [.op (some 2) none (.mv (.c (.bool false)))]
def c43r1 : List AStm := [.op (some 3) none (.mv (.t 0)),
    .op (some 4) none (.bin .geq (.t 3) (.c (.int .i64 0))),
    .op (some 5) none (.mv (.t 4)),
    .op (some 6) (some (5, true)) (.mv (.t 0)),
    .op (some 7) (some (5, true)) (.bin .leq (.t 6) (.c (.int .i64 65535))),
    .op (some 8) none (.pick (.t 5) (.t 7) (.c (.bool false))),
    .op (some 2) none (.mv (.t 8))]
def c43 : CF := ⟨.seq (.reg c43r0) (.seq (.reg c43r1) (.ret)), [.tmp 2], 9⟩
theorem cf43 : cfun Try.prog 43 = some c43 := by kernel_rfl

/-! ### strings.Cut, params 2 -/
def c44r0 : List AStm := [.op (some 4) none (.mv (.c (.str (bs [])))),
    .op (some 5) none (.mv (.c (.str (bs [])))),
    .op (some 6) none (.mv (.c (.bool false)))]
def c44r1 : List AStm := [.op (some 7) none (.mv (.t 0)),
    .op (some 8) none (.mv (.t 1)),
    .call (some 9) none (.c (.fn (.func 69) [] [])) [(.t 7), (.t 8)],
    .op (some 10) none (.ext (.t 9) 0),
    .op (some 11) none (.ext (.t 9) 1),
    .op (some 12) none (.ext (.t 9) 2),
    .op (some 4) none (.mv (.t 10)),
    .op (some 5) none (.mv (.t 11)),
    .op (some 6) none (.mv (.t 12))]
def c44 : CF := ⟨.seq (.reg c44r0) (.seq (.reg c44r1) (.ret)), [.tmp 4, .tmp 5, .tmp 6], 13⟩
theorem cf44 : cfun Try.prog 44 = some c44 := by kernel_rfl

/-! ### weighbridge/span.number, params 1 -/
def c45r0 : List AStm := [.op (some 2) none (.mv (.c (.int .i64 0))),
    .op (some 3) none (.mv (.c (.bool false)))]
def c45r1 : List AStm := [.op (some 6) none (.mv (.t 0)),
    .op (some 7) none (.bin .eql (.t 6) (.c (.str (bs [])))),
    .op (some 8) none (.mv (.t 7)),
    .op (some 9) (some (8, false)) (.mv (.t 0)),
    .op (some 10) (some (8, false)) (.len true (.t 9)),
    .op (some 11) (some (8, false)) (.bin .gtr (.t 10) (.c (.int .i64 5))),
    .op (some 12) none (.pick (.t 8) (.c (.bool true)) (.t 11)),
    .op (some 13) none (.mv (.t 12)),
    .op (some 14) (some (13, false)) (.mv (.t 0)),
    .op (some 15) (some (13, false)) (.len true (.t 14)),
    .op (some 16) (some (13, false)) (.bin .gtr (.t 15) (.c (.int .i64 1))),
    .op (some 17) (some (13, false)) (.mv (.t 16)),
    .op (some 18) (some (17, true)) (.mv (.t 0)),
    .op (some 19) (some (17, true)) (.ixstr (.t 18) (.c (.int .i64 0))),
    .op (some 20) (some (17, true)) (.bin .eql (.t 19) (.c (.int .u8 48))),
    .op (some 21) (some (13, false)) (.pick (.t 17) (.t 20) (.c (.bool false))),
    .op (some 22) none (.pick (.t 13) (.c (.bool true)) (.t 21))]
def c45r2 : List AStm := [.op (some 2) none (.mv (.c (.int .i64 0))),
    .op (some 3) none (.mv (.c (.bool false)))]
def c45r3 : List AStm := [.op (some 4) none (.mv (.c (.int .i64 0)))]
def c45r4 : List AStm := [.op (some 23) none (.mv (.t 0)),
    .op (some 24) none (.len true (.t 23)),
    .op (some 25) none (.mv (.c (.int .i64 0)))]
def c45r5 : List AStm := [.op (some 26) none (.bin .lss (.t 25) (.t 24))]
def c45r6 : List AStm := [.op (some 27) none (.mv (.t 25)),
    .op (some 5) none (.mv (.t 27))]
def c45r7 : List AStm := [.op (some 28) none (.mv (.t 0)),
    .op (some 29) none (.mv (.t 5)),
    .op (some 30) none (.ixstr (.t 28) (.t 29)),
    .op (some 31) none (.bin .lss (.t 30) (.c (.int .u8 48))),
    .op (some 32) none (.mv (.t 31)),
    .op (some 33) (some (32, false)) (.mv (.t 0)),
    .op (some 34) (some (32, false)) (.mv (.t 5)),
    .op (some 35) (some (32, false)) (.ixstr (.t 33) (.t 34)),
    .op (some 36) (some (32, false)) (.bin .gtr (.t 35) (.c (.int .u8 57))),
    .op (some 37) none (.pick (.t 32) (.c (.bool true)) (.t 36))]
def c45r8 : List AStm := [.op (some 2) none (.mv (.c (.int .i64 0))),
    .op (some 3) none (.mv (.c (.bool false)))]
def c45r9 : List AStm := [.op (some 38) none (.mv (.t 4)),
    .op (some 39) none (.bin .mul (.c (.int .i64 10)) (.t 38)),
    .op (some 40) none (.mv (.t 0)),
    .op (some 41) none (.mv (.t 5)),
    .op (some 42) none (.ixstr (.t 40) (.t 41)),
    .op (some 43) none (.bin .sub (.t 42) (.c (.int .u8 48))),
    .op (some 44) none (.conv .i64 (.t 43)),
    .op (some 45) none (.bin .add (.t 39) (.t 44)),
    .op (some 4) none (.mv (.t 45))]
def c45r10 : List AStm := [.op (some 46) none (.bin .add (.t 25) (.c (.int .i64 1))),
    .op (some 25) none (.mv (.t 46))]
def c45l11 : AC := .seq (.reg c45r5) (.seq (.cond (.t 26) (.skip) (.exit 0)) (.seq (.block 1 (.seq (.reg c45r6) (.seq (.seq (.reg c45r7) (.cond (.t 37) (.seq (.reg c45r8) (.ret)) (.skip))) (.reg c45r9)))) (.reg c45r10)))
def c45r12 : List AStm := [.op (some 47) none (.mv (.t 4)),
    .op (some 2) none (.mv (.t 47)),
    .op (some 3) none (.mv (.c (.bool true)))]
def c45 : CF := ⟨.seq (.reg c45r0) (.seq (.seq (.reg c45r1) (.cond (.t 22) (.seq (.reg c45r2) (.ret)) (.skip))) (.seq (.reg c45r3) (.seq (.seq (.reg c45r4) (.block 0 (.loop c45l11))) (.seq (.reg c45r12) (.ret))))), [.tmp 2, .tmp 3], 48⟩
theorem cf45 : cfun Try.prog 45 = some c45 := by kernel_rfl

/-! ### weighbridge/span.Print$1, params 1 -/
def c48r0 : List AStm := [.op (some 2) none (.mv (.c (.str (bs []))))]
def c48r1 : List AStm := [.op (some 3) none (.mv (.t 0)),
    .op (some 4) none (.conv .u64 (.t 3)),
    .call (some 5) none (.c (.fn (.func 50) [] [])) [(.t 4)],
    .call (some 6) none (.c (.fn (.func 49) [] [])) [(.t 5)],
    .op (some 2) none (.mv (.t 6))]
def c48 : CF := ⟨.seq (.reg c48r0) (.seq (.reg c48r1) (.ret)), [.tmp 2], 7⟩
theorem cf48 : cfun Try.prog 48 = some c48 := by kernel_rfl

/-! ### weighbridge/wide.Text, params 1 -/
def c49r0 : List AStm := [.op (some 1) none (.box (.t 0)),
    .op (some 2) none (.mv (.c (.str (bs []))))]
def c49r1 : List AStm := [.op (some 3) none (.mv (.c .nils))]
def c49r2 : List AStm := [.op (some 9) none (.load (some 2) (.t 1)),
    .call (some 10) none (.c (.fn (.func 70) [] [])) [(.t 9), (.c (.int .u64 1000000000000000000))],
    .op (some 8) none (.mv (.t 10)),
    .op (some 11) none (.ext (.t 8) 0),
    .op (some 12) none (.ext (.t 8) 1),
    .op (some 4) none (.alloc [(.int .u64 0), (.int .u64 0)]),
    .op none none (.store 2 (.t 4) (.t 11)),
    .op (some 5) none (.mv (.t 12))]
def c49r3 : List AStm := [.op (some 13) none (.load (some 2) (.t 4)),
    .op (some 14) none (.build [(.int .u64 0), (.int .u64 0)] []),
    .op (some 15) none (.eqa false [.ki, .ki] (.t 13) (.t 14)),
    .op (some 6) none (.mv (.t 15))]
def c49r4 : List AStm := [.op (some 16) none (.mv (.c (.int .i64 0)))]
def c49r5 : List AStm := [.op (some 17) none (.bin .lss (.t 16) (.c (.int .i64 18)))]
def c49r6 : List AStm := [.op (some 18) none (.mv (.t 16)),
    .op (some 7) none (.mv (.t 18))]
def c49r7 : List AStm := [.op (some 19) none (.mv (.t 6)),
    .op (some 20) none (.mv (.t 19)),
    .op (some 21) (some (20, true)) (.mv (.t 5)),
    .op (some 22) (some (20, true)) (.bin .eql (.t 21) (.c (.int .u64 0))),
    .op (some 23) none (.pick (.t 20) (.t 22) (.c (.bool false))),
    .op (some 24) none (.mv (.t 23)),
    .op (some 25) (some (24, true)) (.mv (.t 7)),
    .op (some 26) (some (24, true)) (.bin .gtr (.t 25) (.c (.int .i64 0))),
    .op (some 27) none (.pick (.t 24) (.t 26) (.c (.bool false)))]
def c49r8 : List AStm := [.op (some 28) none (.mv (.t 3)),
    .op (some 29) none (.mv (.t 5)),
    .op (some 30) none (.bin .rem (.t 29) (.c (.int .u64 10))),
    .op (some 31) none (.bin .add (.c (.int .u64 48)) (.t 30)),
    .op (some 32) none (.conv .u8 (.t 31)),
    .op (some 33) none (.bslice 1 [(.int .u8 0)] 1 [(0, 1, (.t 32))]),
    .op (some 34) none (.append false 1 1 (.t 28) (.t 33)),
    .op (some 3) none (.mv (.t 34))]
def c49r9 : List AStm := [.op (some 35) none (.mv (.t 5)),
    .op (some 36) none (.bin .quo (.t 35) (.c (.int .u64 10))),
    .op (some 5) none (.mv (.t 36))]
def c49r10 : List AStm := [.op (some 37) none (.bin .add (.t 16) (.c (.int .i64 1))),
    .op (some 16) none (.mv (.t 37))]
def c49l11 : AC := .seq (.reg c49r5) (.seq (.cond (.t 17) (.skip) (.exit 2)) (.seq (.block 3 (.seq (.reg c49r6) (.seq (.seq (.reg c49r7) (.cond (.t 27) (.exit 2) (.skip))) (.seq (.reg c49r8) (.reg c49r9))))) (.reg c49r10)))
def c49r12 : List AStm := [.op (some 38) none (.mv (.t 6))]
def c49r13 : List AStm := [.op (some 39) none (.load (some 2) (.t 4)),
    .op none none (.store 2 (.t 1) (.t 39))]
def c49l14 : AC := .block 1 (.seq (.reg c49r2) (.seq (.reg c49r3) (.seq (.seq (.reg c49r4) (.block 2 (.loop c49l11))) (.seq (.seq (.reg c49r12) (.cond (.t 38) (.exit 0) (.skip))) (.reg c49r13)))))
def c49r15 : List AStm := [.op (some 40) none (.mv (.t 3)),
    .call (some 41) none (.c (.fn (.func 71) [] [])) [(.t 40)]]
def c49r16 : List AStm := [.op (some 42) none (.mv (.t 3)),
    .op (some 43) none (.b2s (.t 42)),
    .op (some 2) none (.mv (.t 43))]
def c49 : CF := ⟨.seq (.reg c49r0) (.seq (.reg c49r1) (.seq (.block 0 (.loop c49l14)) (.seq (.reg c49r15) (.seq (.reg c49r16) (.ret))))), [.tmp 2], 44⟩
theorem cf49 : cfun Try.prog 49 = some c49 := by kernel_rfl

/-! ### weighbridge/wide.Of, params 1 -/
def c50r0 : List AStm := [.op (some 2) none (.alloc [(.int .u64 0), (.int .u64 0)])]
def c50r1 : List AStm := [.op (some 3) none (.mv (.t 0)),
    .op (some 4) none (.build [(.int .u64 0), (.int .u64 0)] [(1, 1, (.t 3))]),
    .op none none (.store 2 (.t 2) (.t 4))]
def c50 : CF := ⟨.seq (.reg c50r0) (.seq (.reg c50r1) (.ret)), [.cell 2 (some 2)], 5⟩
theorem cf50 : cfun Try.prog 50 = some c50 := by kernel_rfl

/-! ### weighbridge/span.check, params 1 -/
def c52r0 : List AStm := [.op (some 2) none (.mv (.c (.int .i64 0)))]
def c52r1 : List AStm := [.op (some 6) none (.mv (.t 0)),
    .op (some 7) none (.len false (.t 6)),
    .op (some 8) none (.mv (.c (.int .i64 0)))]
def c52r2 : List AStm := [.op (some 9) none (.bin .lss (.t 8) (.t 7))]
def c52r3 : List AStm := [.op (some 10) none (.ixs 2 (.t 6) (.t 8)),
    .op (some 11) none (.load (some 2) (.t 10)),
    .op (some 4) none (.alloc [(.int .i64 0), (.int .i64 0)]),
    .op none none (.store 2 (.t 4) (.t 11))]
def c52r4 : List AStm := [.op (some 12) none (.load (some 2) (.t 4)),
    .call (some 13) none (.c (.fn (.func 13) [] [])) [(.t 12)],
    .op (some 5) none (.mv (.t 13))]
def c52r5 : List AStm := [.op (some 14) none (.mv (.t 5)),
    .op (some 15) none (.bin .neq (.t 14) (.c (.int .i64 0)))]
def c52r6 : List AStm := [.op (some 16) none (.mv (.t 5)),
    .op (some 2) none (.mv (.t 16))]
def c52r7 : List AStm := [.op (some 17) none (.bin .add (.t 8) (.c (.int .i64 1))),
    .op (some 8) none (.mv (.t 17))]
def c52l8 : AC := .seq (.reg c52r2) (.seq (.cond (.t 9) (.skip) (.exit 0)) (.seq (.block 1 (.seq (.reg c52r3) (.seq (.reg c52r4) (.seq (.reg c52r5) (.cond (.t 15) (.seq (.reg c52r6) (.ret)) (.skip)))))) (.reg c52r7)))
def c52r9 : List AStm := [.op (some 2) none (.mv (.c (.int .i64 0)))]
def c52 : CF := ⟨.seq (.reg c52r0) (.seq (.seq (.reg c52r1) (.block 0 (.loop c52l8))) (.seq (.reg c52r9) (.ret))), [.tmp 2], 18⟩
theorem cf52 : cfun Try.prog 52 = some c52 := by kernel_rfl

/-! ### slices.Clone[[]weighbridge/api.Span,weighbridge/api.Span], params 1 -/
def c53r0 : List AStm := [.op (some 2) none (.mv (.c .nils))]
def c53r1 : List AStm := [.op (some 3) none (.mv (.t 0)),
    .op (some 4) none (.isnil false 2 (.t 3))]
def c53r2 : List AStm := [.op (some 2) none (.mv (.c .nils))]
def c53r3 : List AStm := [.op (some 5) none (.bslice 2 [] 0 []),
    .op (some 6) none (.mv (.t 0)),
    .op (some 7) none (.append false 2 16 (.t 5) (.t 6)),
    .op (some 2) none (.mv (.t 7))]
def c53 : CF := ⟨.seq (.reg c53r0) (.seq (.seq (.reg c53r1) (.cond (.t 4) (.seq (.reg c53r2) (.ret)) (.skip))) (.seq (.reg c53r3) (.ret))), [.tmp 2], 8⟩
theorem cf53 : cfun Try.prog 53 = some c53 := by kernel_rfl

/-! ### slices.SortFunc[[]weighbridge/api.Span,weighbridge/api.Span], params 2 -/
def c54r0 : List AStm := [.op (some 5) none (.mv (.t 0)),
    .op (some 6) none (.len false (.t 5)),
    .op (some 4) none (.mv (.t 6))]
def c54r1 : List AStm := [.op (some 7) none (.mv (.t 0)),
    .op (some 8) none (.mv (.t 4)),
    .op (some 9) none (.mv (.t 4)),
    .op (some 10) none (.conv .u64 (.t 9)),
    .call (some 11) none (.c (.fn (.func 74) [] [])) [(.t 10)],
    .op (some 12) none (.mv (.t 1)),
    .call (some 13) none (.c (.fn (.func 73) [] [])) [(.t 7), (.c (.int .i64 0)), (.t 8), (.t 11), (.t 12)]]
def c54 : CF := ⟨.seq (.reg c54r0) (.reg c54r1), [], 14⟩
theorem cf54 : cfun Try.prog 54 = some c54 := by kernel_rfl

/-! ### weighbridge/span.Union$1, params 2 -/
def c55r0 : List AStm := [.op (some 2) none (.box (.t 0)),
    .op (some 3) none (.box (.t 1)),
    .op (some 4) none (.mv (.c (.int .i64 0)))]
def c55r1 : List AStm := [.op (some 5) none (.faddr 0 (.t 2)),
    .op (some 6) none (.load none (.t 5)),
    .op (some 7) none (.faddr 0 (.t 3)),
    .op (some 8) none (.load none (.t 7)),
    .call (some 9) none (.c (.fn (.func 56) [] [])) [(.t 6), (.t 8)],
    .op (some 4) none (.mv (.t 9))]
def c55 : CF := ⟨.seq (.reg c55r0) (.seq (.reg c55r1) (.ret)), [.tmp 4], 10⟩
theorem cf55 : cfun Try.prog 55 = some c55 := by kernel_rfl

/-! ### cmp.Compare[int], params 2 -/
def c56r0 : List AStm := [.op (some 4) none (.mv (.c (.int .i64 0)))]
def c56r1 : List AStm := [.op (some 7) none (.mv (.t 0)),
    .call (some 8) none (.c (.fn (.func 75) [] [])) [(.t 7)],
    .op (some 5) none (.mv (.t 8))]
def c56r2 : List AStm := [.op (some 9) none (.mv (.t 1)),
    .call (some 10) none (.c (.fn (.func 75) [] [])) [(.t 9)],
    .op (some 6) none (.mv (.t 10))]
def c56r3 : List AStm := [.op (some 11) none (.mv (.t 5))]
def c56r4 : List AStm := [.op (some 12) none (.mv (.t 6))]
def c56r5 : List AStm := [.op (some 4) none (.mv (.c (.int .i64 0)))]
def c56r6 : List AStm := [.op (some 4) none (.mv (.c (.int .i64 (-1))))]
def c56r7 : List AStm := [.op (some 13) none (.mv (.t 6))]
def c56r8 : List AStm := [.op (some 4) none (.mv (.c (.int .i64 1)))]
def c56r9 : List AStm := [.op (some 14) none (.mv (.t 0)),
    .op (some 15) none (.mv (.t 1)),
    .op (some 16) none (.bin .lss (.t 14) (.t 15))]
def c56r10 : List AStm := [.op (some 4) none (.mv (.c (.int .i64 (-1))))]
def c56r11 : List AStm := [.op (some 17) none (.mv (.t 0)),
    .op (some 18) none (.mv (.t 1)),
    .op (some 19) none (.bin .gtr (.t 17) (.t 18))]
def c56r12 : List AStm := [.op (some 4) none (.mv (.c (.int .i64 1)))]
def c56r13 : List AStm := [.op (some 4) none (.mv (.c (.int .i64 0)))]
def c56 : CF := ⟨.seq (.reg c56r0) (.seq (.reg c56r1) (.seq (.reg c56r2) (.seq (.seq (.reg c56r3) (.cond (.t 11) (.seq (.seq (.reg c56r4) (.cond (.t 12) (.seq (.reg c56r5) (.ret)) (.skip))) (.seq (.reg c56r6) (.ret))) (.skip))) (.seq (.seq (.reg c56r7) (.cond (.t 13) (.seq (.reg c56r8) (.ret)) (.skip))) (.seq (.seq (.reg c56r9) (.cond (.t 16) (.seq (.reg c56r10) (.ret)) (.skip))) (.seq (.seq (.reg c56r11) (.cond (.t 19) (.seq (.reg c56r12) (.ret)) (.skip))) (.seq (.reg c56r13) (.ret)))))))), [.tmp 4], 20⟩
theorem cf56 : cfun Try.prog 56 = some c56 := by kernel_rfl

/-! ### weighbridge/span.Starts$1, params 1 -/
def c58r0 : List AStm := [.op (some 3) none (.mv (.t 0)),
    .call (some 4) none (.c (.fn (.func 43) [] [])) [(.t 3)]]
def c58r1 : List AStm := [.op (some 5) none (.load none (.t 1)),
    .op (some 6) none (.mv (.t 0)),
    .op (some 7) none (.bslice 1 [(.int .i64 0)] 1 [(0, 1, (.t 6))]),
    .op (some 8) none (.append false 1 8 (.t 5) (.t 7)),
    .op none none (.store 1 (.t 1) (.t 8))]
def c58 : CF := ⟨.seq (.reg c58r0) (.cond (.t 4) (.reg c58r1) (.skip)), [], 9⟩
theorem cf58 : cfun Try.prog 58 = some c58 := by kernel_rfl

/-! ### slices.Sort[[]int,int], params 1 -/
def c59r0 : List AStm := [.op (some 3) none (.mv (.t 0)),
    .op (some 4) none (.len false (.t 3)),
    .op (some 2) none (.mv (.t 4))]
def c59r1 : List AStm := [.op (some 5) none (.mv (.t 0)),
    .op (some 6) none (.mv (.t 2)),
    .op (some 7) none (.mv (.t 2)),
    .op (some 8) none (.conv .u64 (.t 7)),
    .call (some 9) none (.c (.fn (.func 74) [] [])) [(.t 8)],
    .call (some 10) none (.c (.fn (.func 76) [] [])) [(.t 5), (.c (.int .i64 0)), (.t 6), (.t 9)]]
def c59 : CF := ⟨.seq (.reg c59r0) (.reg c59r1), [], 11⟩
theorem cf59 : cfun Try.prog 59 = some c59 := by kernel_rfl

/-! ### slices.Compact[[]int,int], params 1 -/
def c60r0 : List AStm := [.op (some 2) none (.mv (.c .nils))]
def c60r1 : List AStm := [.op (some 6) none (.mv (.t 0)),
    .op (some 7) none (.len false (.t 6)),
    .op (some 8) none (.bin .lss (.t 7) (.c (.int .i64 2)))]
def c60r2 : List AStm := [.op (some 9) none (.mv (.t 0)),
    .op (some 2) none (.mv (.t 9))]
def c60r3 : List AStm := [.op (some 3) none (.mv (.c (.int .i64 1)))]
def c60r4 : List AStm := [.op (some 10) none (.mv (.t 3)),
    .op (some 11) none (.mv (.t 0)),
    .op (some 12) none (.len false (.t 11)),
    .op (some 13) none (.bin .lss (.t 10) (.t 12))]
def c60r5 : List AStm := [.op (some 16) none (.mv (.t 0)),
    .op (some 17) none (.mv (.t 3)),
    .op (some 18) none (.ixs 1 (.t 16) (.t 17)),
    .op (some 19) none (.load none (.t 18)),
    .op (some 20) none (.mv (.t 0)),
    .op (some 21) none (.mv (.t 3)),
    .op (some 22) none (.bin .sub (.t 21) (.c (.int .i64 1))),
    .op (some 23) none (.ixs 1 (.t 20) (.t 22)),
    .op (some 24) none (.load none (.t 23)),
    .op (some 25) none (.bin .eql (.t 19) (.t 24))]
def c60r6 : List AStm := []
def c60r7 : List AStm := [.op (some 26) none (.mv (.t 0)),
    .op (some 27) none (.mv (.t 3)),
    .op (some 28) none (.slc 1 (.t 26) (some (.t 27)) none),
    .op (some 4) none (.mv (.t 28))]
def c60r8 : List AStm := [.op (some 5) none (.mv (.c (.int .i64 1)))]
def c60r9 : List AStm := [.op (some 29) none (.mv (.t 5)),
    .op (some 30) none (.mv (.t 4)),
    .op (some 31) none (.len false (.t 30)),
    .op (some 32) none (.bin .lss (.t 29) (.t 31))]
def c60r10 : List AStm := [.op (some 35) none (.mv (.t 4)),
    .op (some 36) none (.mv (.t 5)),
    .op (some 37) none (.ixs 1 (.t 35) (.t 36)),
    .op (some 38) none (.load none (.t 37)),
    .op (some 39) none (.mv (.t 4)),
    .op (some 40) none (.mv (.t 5)),
    .op (some 41) none (.bin .sub (.t 40) (.c (.int .i64 1))),
    .op (some 42) none (.ixs 1 (.t 39) (.t 41)),
    .op (some 43) none (.load none (.t 42)),
    .op (some 44) none (.bin .neq (.t 38) (.t 43))]
def c60r11 : List AStm := []
def c60r12 : List AStm := [.op (some 45) none (.mv (.t 0)),
    .op (some 46) none (.mv (.t 3)),
    .op (some 47) none (.mv (.t 4)),
    .op (some 48) none (.mv (.t 5)),
    .op (some 49) none (.ixs 1 (.t 47) (.t 48)),
    .op (some 50) none (.load none (.t 49)),
    .op (some 51) none (.ixs 1 (.t 45) (.t 46)),
    .op none none (.store 1 (.t 51) (.t 50))]
def c60r13 : List AStm := [.op (some 52) none (.mv (.t 3)),
    .op (some 53) none (.bin .add (.t 52) (.c (.int .i64 1))),
    .op (some 3) none (.mv (.t 53))]
def c60r14 : List AStm := [.op (some 33) none (.mv (.t 5)),
    .op (some 34) none (.bin .add (.t 33) (.c (.int .i64 1))),
    .op (some 5) none (.mv (.t 34))]
def c60l15 : AC := .seq (.seq (.reg c60r9) (.cond (.t 32) (.skip) (.exit 2))) (.seq (.block 3 (.seq (.dreg c60r10 c60r11) (.cond (.t 44) (.seq (.reg c60r12) (.reg c60r13)) (.skip)))) (.reg c60r14))
def c60r16 : List AStm := [.op (some 57) none (.mv (.t 0)),
    .op (some 58) none (.mv (.t 3)),
    .op (some 59) none (.slc 1 (.t 57) none (some (.t 58))),
    .op (some 2) none (.mv (.t 59))]
def c60r17 : List AStm := [.op (some 14) none (.mv (.t 3)),
    .op (some 15) none (.bin .add (.t 14) (.c (.int .i64 1))),
    .op (some 3) none (.mv (.t 15))]
def c60l18 : AC := .seq (.seq (.reg c60r4) (.cond (.t 13) (.skip) (.exit 0))) (.seq (.block 1 (.seq (.dreg c60r5 c60r6) (.cond (.t 25) (.seq (.reg c60r7) (.seq (.seq (.reg c60r8) (.block 2 (.loop c60l15))) (.seq (.bad) (.seq (.reg c60r16) (.ret))))) (.skip)))) (.reg c60r17))
def c60r19 : List AStm := [.op (some 60) none (.mv (.t 0)),
    .op (some 2) none (.mv (.t 60))]
def c60 : CF := ⟨.seq (.reg c60r0) (.seq (.seq (.reg c60r1) (.cond (.t 8) (.seq (.reg c60r2) (.ret)) (.skip))) (.seq (.seq (.reg c60r3) (.block 0 (.loop c60l18))) (.seq (.reg c60r19) (.ret)))), [.tmp 2], 61⟩
theorem cf60 : cfun Try.prog 60 = some c60 := by kernel_rfl

/-! ### internal/stringslite.Cut, params 2 -/
def c69r0 : List AStm := [.op (some 4) none (.mv (.c (.str (bs [])))),
    .op (some 5) none (.mv (.c (.str (bs [])))),
    .op (some 6) none (.mv (.c (.bool false)))]
def c69r1 : List AStm := [.op (some 8) none (.mv (.t 0)),
    .op (some 9) none (.mv (.t 1)),
    .call (some 10) none (.c (.fn (.func 80) [] [])) [(.t 8), (.t 9)],
    .op (some 7) none (.mv (.t 10))]
def c69r2 : List AStm := [.op (some 11) none (.mv (.t 7)),
    .op (some 12) none (.bin .geq (.t 11) (.c (.int .i64 0)))]
def c69r3 : List AStm := [.op (some 13) none (.mv (.t 0)),
    .op (some 14) none (.mv (.t 7)),
    .op (some 15) none (.sstr (.t 13) none (some (.t 14))),
    .op (some 16) none (.mv (.t 0)),
    .op (some 17) none (.mv (.t 7)),
    .op (some 18) none (.mv (.t 1)),
    .op (some 19) none (.len true (.t 18)),
    .op (some 20) none (.bin .add (.t 17) (.t 19)),
    .op (some 21) none (.sstr (.t 16) (some (.t 20)) none),
    .op (some 4) none (.mv (.t 15)),
    .op (some 5) none (.mv (.t 21)),
    .op (some 6) none (.mv (.c (.bool true)))]
def c69r4 : List AStm := []
def c69r5 : List AStm := [.op (some 22) none (.mv (.t 0)),
    .op (some 4) none (.mv (.t 22)),
    .op (some 5) none (.mv (.c (.str (bs [])))),
    .op (some 6) none (.mv (.c (.bool false)))]
def c69 : CF := ⟨.seq (.reg c69r0) (.seq (.seq (.reg c69r1) (.seq (.reg c69r2) (.cond (.t 12) (.seq (.dreg c69r3 c69r4) (.ret)) (.skip)))) (.seq (.reg c69r5) (.ret))), [.tmp 4, .tmp 5, .tmp 6], 23⟩
theorem cf69 : cfun Try.prog 69 = some c69 := by kernel_rfl

/-! ### weighbridge/wide.Div, params 2 -/
def c70r0 : List AStm := [.op (some 2) none (.box (.t 0)),
    .op (some 4) none (.alloc [(.int .u64 0), (.int .u64 0)]),
    .op (some 5) none (.mv (.c (.int .u64 0)))]
def c70r1 : List AStm := [.op (some 9) none (.mv (.t 1)),
    .op (some 10) none (.bin .eql (.t 9) (.c (.int .u64 0)))]
def c70r2 : List AStm := [.op (some 11) none (.build [(.int .u64 0), (.int .u64 0)] []),
    .op none none (.store 2 (.t 4) (.t 11)),
    .op (some 5) none (.mv (.c (.int .u64 0)))]
def c70r3 : List AStm := [.op (some 12) none (.faddr 0 (.t 2)),
    .op (some 13) none (.load none (.t 12)),
    .op (some 14) none (.mv (.t 1)),
    .op (some 15) none (.bin .quo (.t 13) (.t 14)),
    .op (some 16) none (.build [(.int .u64 0), (.int .u64 0)] [(0, 1, (.t 15))]),
    .op (some 6) none (.alloc [(.int .u64 0), (.int .u64 0)]),
    .op none none (.store 2 (.t 6) (.t 16))]
def c70r4 : List AStm := [.op (some 17) none (.faddr 0 (.t 2)),
    .op (some 18) none (.load none (.t 17)),
    .op (some 19) none (.mv (.t 1)),
    .op (some 20) none (.bin .rem (.t 18) (.t 19)),
    .op (some 21) none (.build [(.int .u64 0), (.int .u64 0)] [(1, 1, (.t 20))]),
    .op (some 7) none (.alloc [(.int .u64 0), (.int .u64 0)]),
    .op none none (.store 2 (.t 7) (.t 21))]
def c70r5 : List AStm := [.op (some 8) none (.mv (.c (.int .i64 63)))]
def c70r6 : List AStm := [.op (some 22) none (.mv (.t 8)),
    .op (some 23) none (.bin .geq (.t 22) (.c (.int .i64 0)))]
def c70r7 : List AStm := [.op (some 26) none (.load (some 2) (.t 7)),
    .op (some 27) none (.faddr 1 (.t 2)),
    .op (some 28) none (.load none (.t 27)),
    .op (some 29) none (.mv (.t 8)),
    .op (some 30) none (.conv .u64 (.t 29)),
    .op (some 31) none (.bin .shr (.t 28) (.t 30)),
    .op (some 32) none (.bin .and (.t 31) (.c (.int .u64 1))),
    .call (some 33) none (.c (.fn (.func 81) [] [])) [(.t 26), (.t 32)],
    .op none none (.store 2 (.t 7) (.t 33))]
def c70r8 : List AStm := [.op (some 34) none (.faddr 1 (.t 6)),
    .op (some 35) none (.load none (.t 34)),
    .op (some 36) none (.bin .shl (.t 35) (.c (.int .u64 1))),
    .op (some 37) none (.faddr 1 (.t 6)),
    .op none none (.store 1 (.t 37) (.t 36))]
def c70r9 : List AStm := []
def c70r10 : List AStm := [.op (some 38) none (.load (some 2) (.t 7)),
    .op (some 39) none (.mv (.t 1)),
    .callG (some 40) none (.c (.fn (.func 50) [] [])) [(.t 39)],
    .call (some 41) none (.c (.fn (.func 82) [] [])) [(.t 38), (.t 40)],
    .op (some 42) none (.un .not (.t 41))]
def c70r11 : List AStm := [.op (some 44) none (.load (some 2) (.t 7)),
    .op (some 45) none (.mv (.t 1)),
    .call (some 46) none (.c (.fn (.func 50) [] [])) [(.t 45)],
    .call (some 47) none (.c (.fn (.func 83) [] [])) [(.t 44), (.t 46)],
    .op (some 43) none (.mv (.t 47)),
    .op (some 48) none (.ext (.t 43) 0),
    .op (some 49) none (.ext (.t 43) 1),
    .op none none (.store 2 (.t 7) (.t 48))]
def c70r12 : List AStm := []
def c70r13 : List AStm := [.op (some 50) none (.faddr 1 (.t 6)),
    .op (some 51) none (.load none (.t 50)),
    .op (some 52) none (.bin .or (.t 51) (.c (.int .u64 1))),
    .op (some 53) none (.faddr 1 (.t 6)),
    .op none none (.store 1 (.t 53) (.t 52))]
def c70r14 : List AStm := [.op (some 24) none (.mv (.t 8)),
    .op (some 25) none (.bin .sub (.t 24) (.c (.int .i64 1))),
    .op (some 8) none (.mv (.t 25))]
def c70l15 : AC := .seq (.seq (.reg c70r6) (.cond (.t 23) (.skip) (.exit 0))) (.seq (.block 1 (.seq (.reg c70r7) (.seq (.reg c70r8) (.seq (.dreg c70r9 c70r10) (.cond (.t 42) (.seq (.dreg c70r11 c70r12) (.reg c70r13)) (.skip)))))) (.reg c70r14))
def c70r16 : List AStm := [.op (some 54) none (.load (some 2) (.t 6)),
    .op (some 55) none (.faddr 1 (.t 7)),
    .op (some 56) none (.load none (.t 55)),
    .op none none (.store 2 (.t 4) (.t 54)),
    .chk 55 none (.faddr 1 (.t 7)),
    .chk 56 none (.load none (.t 55)),
    .op (some 5) none (.mv (.t 56))]
def c70r17 : List AStm := []
def c70 : CF := ⟨.seq (.reg c70r0) (.seq (.seq (.reg c70r1) (.cond (.t 10) (.seq (.reg c70r2) (.ret)) (.skip))) (.seq (.reg c70r3) (.seq (.reg c70r4) (.seq (.seq (.reg c70r5) (.block 0 (.loop c70l15))) (.seq (.dreg c70r16 c70r17) (.ret)))))), [.cell 4 (some 2), .tmp 5], 57⟩
theorem cf70 : cfun Try.prog 70 = some c70 := by kernel_rfl

/-! ### slices.Reverse[[]byte,byte], params 1 -/
def c71r0 : List AStm := [.op (some 4) none (.mv (.t 0)),
    .op (some 5) none (.len false (.t 4)),
    .op (some 6) none (.bin .sub (.t 5) (.c (.int .i64 1))),
    .op (some 2) none (.mv (.c (.int .i64 0))),
    .op (some 3) none (.mv (.t 6))]
def c71r1 : List AStm := [.op (some 7) none (.mv (.t 2)),
    .op (some 8) none (.mv (.t 3)),
    .op (some 9) none (.bin .lss (.t 7) (.t 8))]
def c71r2 : List AStm := [.op (some 14) none (.mv (.t 0)),
    .op (some 15) none (.mv (.t 2)),
    .op (some 16) none (.mv (.t 0)),
    .op (some 17) none (.mv (.t 3)),
    .op (some 18) none (.mv (.t 0)),
    .op (some 19) none (.mv (.t 3)),
    .op (some 20) none (.ixs 1 (.t 18) (.t 19)),
    .op (some 21) none (.load none (.t 20)),
    .op (some 22) none (.mv (.t 0)),
    .op (some 23) none (.mv (.t 2)),
    .op (some 24) none (.ixs 1 (.t 22) (.t 23)),
    .op (some 25) none (.load none (.t 24)),
    .op (some 26) none (.ixs 1 (.t 14) (.t 15)),
    .op none none (.store 1 (.t 26) (.t 21)),
    .op (some 27) none (.ixs 1 (.t 16) (.t 17)),
    .op none none (.store 1 (.t 27) (.t 25))]
def c71r3 : List AStm := []
def c71r4 : List AStm := [.op (some 10) none (.mv (.t 2)),
    .op (some 11) none (.bin .add (.t 10) (.c (.int .i64 1))),
    .op (some 12) none (.mv (.t 3)),
    .op (some 13) none (.bin .sub (.t 12) (.c (.int .i64 1))),
    .op (some 2) none (.mv (.t 11)),
    .op (some 3) none (.mv (.t 13))]
def c71l5 : AC := .seq (.seq (.reg c71r1) (.cond (.t 9) (.skip) (.exit 0))) (.seq (.block 1 (.dreg c71r2 c71r3)) (.reg c71r4))
def c71 : CF := ⟨.seq (.reg c71r0) (.block 0 (.loop c71l5)), [], 28⟩
theorem cf71 : cfun Try.prog 71 = some c71 := by kernel_rfl

/-! ### slices.pdqsortCmpFunc[weighbridge/api.Span], params 5 -/
def c73r0 : List AStm := [.op (some 10) none (.mv (.c (.bool true)))]
def c73r1 : List AStm := [.op (some 11) none (.mv (.c (.bool true)))]
def c73r2 : List AStm := [.op (some 21) none (.mv (.t 2)),
    .op (some 22) none (.mv (.t 1)),
    .op (some 23) none (.bin .sub (.t 21) (.t 22)),
    .op (some 12) none (.mv (.t 23))]
def c73r3 : List AStm := [.op (some 24) none (.mv (.t 12)),
    .op (some 25) none (.bin .leq (.t 24) (.c (.int .i64 12)))]
def c73r4 : List AStm := [.op (some 26) none (.mv (.t 0)),
    .op (some 27) none (.mv (.t 1)),
    .op (some 28) none (.mv (.t 2)),
    .op (some 29) none (.mv (.t 4)),
    .call (some 30) none (.c (.fn (.func 90) [] [])) [(.t 26), (.t 27), (.t 28), (.t 29)]]
def c73r5 : List AStm := [.op (some 31) none (.mv (.t 3)),
    .op (some 32) none (.bin .eql (.t 31) (.c (.int .i64 0)))]
def c73r6 : List AStm := [.op (some 33) none (.mv (.t 0)),
    .op (some 34) none (.mv (.t 1)),
    .op (some 35) none (.mv (.t 2)),
    .op (some 36) none (.mv (.t 4)),
    .call (some 37) none (.c (.fn (.func 91) [] [])) [(.t 33), (.t 34), (.t 35), (.t 36)]]
def c73r7 : List AStm := [.op (some 38) none (.mv (.t 10)),
    .op (some 39) none (.un .not (.t 38))]
def c73r8 : List AStm := [.op (some 40) none (.mv (.t 0)),
    .op (some 41) none (.mv (.t 1)),
    .op (some 42) none (.mv (.t 2)),
    .op (some 43) none (.mv (.t 4)),
    .call (some 44) none (.c (.fn (.func 92) [] [])) [(.t 40), (.t 41), (.t 42), (.t 43)]]
def c73r9 : List AStm := [.op (some 45) none (.mv (.t 3)),
    .op (some 46) none (.bin .sub (.t 45) (.c (.int .i64 1))),
    .op (some 3) none (.mv (.t 46))]
def c73r10 : List AStm := [.op (some 48) none (.mv (.t 0)),
    .op (some 49) none (.mv (.t 1)),
    .op (some 50) none (.mv (.t 2)),
    .op (some 51) none (.mv (.t 4)),
    .call (some 52) none (.c (.fn (.func 93) [] [])) [(.t 48), (.t 49), (.t 50), (.t 51)],
    .op (some 47) none (.mv (.t 52)),
    .op (some 53) none (.ext (.t 47) 0),
    .op (some 54) none (.ext (.t 47) 1),
    .op (some 13) none (.mv (.t 53)),
    .op (some 14) none (.mv (.t 54))]
def c73r11 : List AStm := [.op (some 55) none (.mv (.t 14)),
    .op (some 56) none (.bin .eql (.t 55) (.c (.int .i64 2)))]
def c73r12 : List AStm := [.op (some 57) none (.mv (.t 0)),
    .op (some 58) none (.mv (.t 1)),
    .op (some 59) none (.mv (.t 2)),
    .op (some 60) none (.mv (.t 4)),
    .call (some 61) none (.c (.fn (.func 94) [] [])) [(.t 57), (.t 58), (.t 59), (.t 60)]]
def c73r13 : List AStm := [.op (some 62) none (.mv (.t 2)),
    .op (some 63) none (.bin .sub (.t 62) (.c (.int .i64 1))),
    .op (some 64) none (.mv (.t 13)),
    .op (some 65) none (.mv (.t 1)),
    .op (some 66) none (.bin .sub (.t 64) (.t 65)),
    .op (some 67) none (.bin .sub (.t 63) (.t 66)),
    .op (some 13) none (.mv (.t 67))]
def c73r14 : List AStm := [.op (some 14) none (.mv (.c (.int .i64 1)))]
def c73r15 : List AStm := [.op (some 68) none (.mv (.t 10)),
    .op (some 69) none (.mv (.t 68)),
    .op (some 70) (some (69, true)) (.mv (.t 11)),
    .op (some 71) none (.pick (.t 69) (.t 70) (.c (.bool false))),
    .op (some 72) none (.mv (.t 71)),
    .op (some 73) (some (72, true)) (.mv (.t 14)),
    .op (some 74) (some (72, true)) (.bin .eql (.t 73) (.c (.int .i64 1))),
    .op (some 75) none (.pick (.t 72) (.t 74) (.c (.bool false)))]
def c73r16 : List AStm := [.op (some 76) none (.mv (.t 0)),
    .op (some 77) none (.mv (.t 1)),
    .op (some 78) none (.mv (.t 2)),
    .op (some 79) none (.mv (.t 4)),
    .call (some 80) none (.c (.fn (.func 95) [] [])) [(.t 76), (.t 77), (.t 78), (.t 79)]]
def c73r17 : List AStm := []
def c73r18 : List AStm := [.op (some 81) none (.mv (.t 1)),
    .op (some 82) none (.bin .gtr (.t 81) (.c (.int .i64 0))),
    .op (some 83) none (.mv (.t 82)),
    .op (some 84) (some (83, true)) (.mv (.t 4)),
    .op (some 85) (some (83, true)) (.mv (.t 0)),
    .op (some 86) (some (83, true)) (.mv (.t 1)),
    .op (some 87) (some (83, true)) (.bin .sub (.t 86) (.c (.int .i64 1))),
    .op (some 88) (some (83, true)) (.ixs 2 (.t 85) (.t 87)),
    .op (some 89) (some (83, true)) (.load (some 2) (.t 88)),
    .op (some 90) (some (83, true)) (.mv (.t 0)),
    .op (some 91) (some (83, true)) (.mv (.t 13)),
    .op (some 92) (some (83, true)) (.ixs 2 (.t 90) (.t 91)),
    .op (some 93) (some (83, true)) (.load (some 2) (.t 92)),
    .callG (some 94) (some (83, true)) (.t 84) [(.t 89), (.t 93)],
    .op (some 95) (some (83, true)) (.bin .lss (.t 94) (.c (.int .i64 0))),
    .op (some 96) (some (83, true)) (.un .not (.t 95)),
    .op (some 97) none (.pick (.t 83) (.t 96) (.c (.bool false)))]
def c73r19 : List AStm := [.op (some 98) none (.mv (.t 0)),
    .op (some 99) none (.mv (.t 1)),
    .op (some 100) none (.mv (.t 2)),
    .op (some 101) none (.mv (.t 13)),
    .op (some 102) none (.mv (.t 4)),
    .call (some 103) none (.c (.fn (.func 96) [] [])) [(.t 98), (.t 99), (.t 100), (.t 101), (.t 102)],
    .op (some 15) none (.mv (.t 103))]
def c73r20 : List AStm := [.op (some 104) none (.mv (.t 15)),
    .op (some 1) none (.mv (.t 104))]
def c73r21 : List AStm := [.op (some 106) none (.mv (.t 0)),
    .op (some 107) none (.mv (.t 1)),
    .op (some 108) none (.mv (.t 2)),
    .op (some 109) none (.mv (.t 13)),
    .op (some 110) none (.mv (.t 4)),
    .call (some 111) none (.c (.fn (.func 97) [] [])) [(.t 106), (.t 107), (.t 108), (.t 109), (.t 110)],
    .op (some 105) none (.mv (.t 111)),
    .op (some 112) none (.ext (.t 105) 0),
    .op (some 113) none (.ext (.t 105) 1),
    .op (some 16) none (.mv (.t 112)),
    .op (some 17) none (.mv (.t 113))]
def c73r22 : List AStm := [.op (some 114) none (.mv (.t 17)),
    .op (some 11) none (.mv (.t 114))]
def c73r23 : List AStm := [.op (some 115) none (.mv (.t 16)),
    .op (some 116) none (.mv (.t 1)),
    .op (some 117) none (.bin .sub (.t 115) (.t 116)),
    .op (some 118) none (.mv (.t 2)),
    .op (some 119) none (.mv (.t 16)),
    .op (some 120) none (.bin .sub (.t 118) (.t 119)),
    .op (some 18) none (.mv (.t 117)),
    .op (some 19) none (.mv (.t 120))]
def c73r24 : List AStm := [.op (some 121) none (.mv (.t 12)),
    .op (some 122) none (.bin .quo (.t 121) (.c (.int .i64 8))),
    .op (some 20) none (.mv (.t 122))]
def c73r25 : List AStm := [.op (some 123) none (.mv (.t 18)),
    .op (some 124) none (.mv (.t 19)),
    .op (some 125) none (.bin .lss (.t 123) (.t 124))]
def c73r26 : List AStm := [.op (some 126) none (.mv (.t 18)),
    .op (some 127) none (.mv (.t 20)),
    .op (some 128) none (.bin .geq (.t 126) (.t 127)),
    .op (some 10) none (.mv (.t 128))]
def c73r27 : List AStm := [.op (some 129) none (.mv (.t 0)),
    .op (some 130) none (.mv (.t 1)),
    .op (some 131) none (.mv (.t 16)),
    .op (some 132) none (.mv (.t 3)),
    .op (some 133) none (.mv (.t 4)),
    .call (some 134) none (.c (.fn (.func 73) [] [])) [(.t 129), (.t 130), (.t 131), (.t 132), (.t 133)]]
def c73r28 : List AStm := [.op (some 135) none (.mv (.t 16)),
    .op (some 136) none (.bin .add (.t 135) (.c (.int .i64 1))),
    .op (some 1) none (.mv (.t 136))]
def c73r29 : List AStm := [.op (some 137) none (.mv (.t 19)),
    .op (some 138) none (.mv (.t 20)),
    .op (some 139) none (.bin .geq (.t 137) (.t 138)),
    .op (some 10) none (.mv (.t 139))]
def c73r30 : List AStm := [.op (some 140) none (.mv (.t 0)),
    .op (some 141) none (.mv (.t 16)),
    .op (some 142) none (.bin .add (.t 141) (.c (.int .i64 1))),
    .op (some 143) none (.mv (.t 2)),
    .op (some 144) none (.mv (.t 3)),
    .op (some 145) none (.mv (.t 4)),
    .call (some 146) none (.c (.fn (.func 73) [] [])) [(.t 140), (.t 142), (.t 143), (.t 144), (.t 145)]]
def c73r31 : List AStm := [.op (some 147) none (.mv (.t 16)),
    .op (some 2) none (.mv (.t 147))]
def c73l32 : AC := .block 1 (.seq (.reg c73r2) (.seq (.seq (.reg c73r3) (.cond (.t 25) (.seq (.reg c73r4) (.ret)) (.skip))) (.seq (.seq (.reg c73r5) (.cond (.t 32) (.seq (.reg c73r6) (.ret)) (.skip))) (.seq (.seq (.reg c73r7) (.cond (.t 39) (.seq (.reg c73r8) (.reg c73r9)) (.skip))) (.seq (.reg c73r10) (.seq (.seq (.reg c73r11) (.cond (.t 56) (.seq (.reg c73r12) (.seq (.reg c73r13) (.reg c73r14))) (.skip))) (.seq (.seq (.reg c73r15) (.cond (.t 75) (.seq (.reg c73r16) (.cond (.t 80) (.ret) (.skip))) (.skip))) (.seq (.seq (.dreg c73r17 c73r18) (.cond (.t 97) (.seq (.reg c73r19) (.seq (.reg c73r20) (.exit 1))) (.skip))) (.seq (.reg c73r21) (.seq (.reg c73r22) (.seq (.reg c73r23) (.seq (.reg c73r24) (.seq (.reg c73r25) (.cond (.t 125) (.seq (.reg c73r26) (.seq (.reg c73r27) (.reg c73r28))) (.seq (.reg c73r29) (.seq (.reg c73r30) (.reg c73r31)))))))))))))))))
def c73 : CF := ⟨.seq (.reg c73r0) (.seq (.reg c73r1) (.block 0 (.loop c73l32))), [], 148⟩
theorem cf73 : cfun Try.prog 73 = some c73 := by kernel_rfl

/-! ### math/bits.Len, params 1 -/
def c74r0 : List AStm := [.op (some 2) none (.mv (.c (.int .i64 0)))]
def c74r1 : List AStm := [.op (some 3) none (.mv (.t 0)),
    .op (some 4) none (.conv .u32 (.t 3)),
    .call (some 5) none (.c (.fn (.func 98) [] [])) [(.t 4)],
    .op (some 2) none (.mv (.t 5))]
def c74r2 : List AStm := [.op (some 6) none (.mv (.t 0)),
    .call (some 7) none (.c (.fn (.func 99) [] [])) [(.t 6)],
    .op (some 2) none (.mv (.t 7))]
def c74 : CF := ⟨.seq (.reg c74r0) (.seq (.cond (.c (.bool false)) (.seq (.reg c74r1) (.ret)) (.skip)) (.seq (.reg c74r2) (.ret))), [.tmp 2], 8⟩
theorem cf74 : cfun Try.prog 74 = some c74 := by kernel_rfl

/-! ### cmp.isNaN[int], params 1 -/
def c75r0 : List AStm := [.op (some 2) none (.mv (.c (.bool false)))]
def c75r1 : List AStm := [.op (some 3) none (.mv (.t 0)),
    .op (some 4) none (.mv (.t 0)),
    .op (some 5) none (.bin .neq (.t 3) (.t 4)),
    .op (some 2) none (.mv (.t 5))]
def c75 : CF := ⟨.seq (.reg c75r0) (.seq (.reg c75r1) (.ret)), [.tmp 2], 6⟩
theorem cf75 : cfun Try.prog 75 = some c75 := by kernel_rfl

/-! ### slices.pdqsortOrdered[int], params 4 -/
def c76r0 : List AStm := [.op (some 8) none (.mv (.c (.bool true)))]
def c76r1 : List AStm := [.op (some 9) none (.mv (.c (.bool true)))]
def c76r2 : List AStm := [.op (some 19) none (.mv (.t 2)),
    .op (some 20) none (.mv (.t 1)),
    .op (some 21) none (.bin .sub (.t 19) (.t 20)),
    .op (some 10) none (.mv (.t 21))]
def c76r3 : List AStm := [.op (some 22) none (.mv (.t 10)),
    .op (some 23) none (.bin .leq (.t 22) (.c (.int .i64 12)))]
def c76r4 : List AStm := [.op (some 24) none (.mv (.t 0)),
    .op (some 25) none (.mv (.t 1)),
    .op (some 26) none (.mv (.t 2)),
    .call (some 27) none (.c (.fn (.func 100) [] [])) [(.t 24), (.t 25), (.t 26)]]
def c76r5 : List AStm := [.op (some 28) none (.mv (.t 3)),
    .op (some 29) none (.bin .eql (.t 28) (.c (.int .i64 0)))]
def c76r6 : List AStm := [.op (some 30) none (.mv (.t 0)),
    .op (some 31) none (.mv (.t 1)),
    .op (some 32) none (.mv (.t 2)),
    .call (some 33) none (.c (.fn (.func 101) [] [])) [(.t 30), (.t 31), (.t 32)]]
def c76r7 : List AStm := [.op (some 34) none (.mv (.t 8)),
    .op (some 35) none (.un .not (.t 34))]
def c76r8 : List AStm := [.op (some 36) none (.mv (.t 0)),
    .op (some 37) none (.mv (.t 1)),
    .op (some 38) none (.mv (.t 2)),
    .call (some 39) none (.c (.fn (.func 102) [] [])) [(.t 36), (.t 37), (.t 38)]]
def c76r9 : List AStm := [.op (some 40) none (.mv (.t 3)),
    .op (some 41) none (.bin .sub (.t 40) (.c (.int .i64 1))),
    .op (some 3) none (.mv (.t 41))]
def c76r10 : List AStm := [.op (some 43) none (.mv (.t 0)),
    .op (some 44) none (.mv (.t 1)),
    .op (some 45) none (.mv (.t 2)),
    .call (some 46) none (.c (.fn (.func 103) [] [])) [(.t 43), (.t 44), (.t 45)],
    .op (some 42) none (.mv (.t 46)),
    .op (some 47) none (.ext (.t 42) 0),
    .op (some 48) none (.ext (.t 42) 1),
    .op (some 11) none (.mv (.t 47)),
    .op (some 12) none (.mv (.t 48))]
def c76r11 : List AStm := [.op (some 49) none (.mv (.t 12)),
    .op (some 50) none (.bin .eql (.t 49) (.c (.int .i64 2)))]
def c76r12 : List AStm := [.op (some 51) none (.mv (.t 0)),
    .op (some 52) none (.mv (.t 1)),
    .op (some 53) none (.mv (.t 2)),
    .call (some 54) none (.c (.fn (.func 104) [] [])) [(.t 51), (.t 52), (.t 53)]]
def c76r13 : List AStm := [.op (some 55) none (.mv (.t 2)),
    .op (some 56) none (.bin .sub (.t 55) (.c (.int .i64 1))),
    .op (some 57) none (.mv (.t 11)),
    .op (some 58) none (.mv (.t 1)),
    .op (some 59) none (.bin .sub (.t 57) (.t 58)),
    .op (some 60) none (.bin .sub (.t 56) (.t 59)),
    .op (some 11) none (.mv (.t 60))]
def c76r14 : List AStm := [.op (some 12) none (.mv (.c (.int .i64 1)))]
def c76r15 : List AStm := [.op (some 61) none (.mv (.t 8)),
    .op (some 62) none (.mv (.t 61)),
    .op (some 63) (some (62, true)) (.mv (.t 9)),
    .op (some 64) none (.pick (.t 62) (.t 63) (.c (.bool false))),
    .op (some 65) none (.mv (.t 64)),
    .op (some 66) (some (65, true)) (.mv (.t 12)),
    .op (some 67) (some (65, true)) (.bin .eql (.t 66) (.c (.int .i64 1))),
    .op (some 68) none (.pick (.t 65) (.t 67) (.c (.bool false)))]
def c76r16 : List AStm := [.op (some 69) none (.mv (.t 0)),
    .op (some 70) none (.mv (.t 1)),
    .op (some 71) none (.mv (.t 2)),
    .call (some 72) none (.c (.fn (.func 105) [] [])) [(.t 69), (.t 70), (.t 71)]]
def c76r17 : List AStm := []
def c76r18 : List AStm := [.op (some 73) none (.mv (.t 1)),
    .op (some 74) none (.bin .gtr (.t 73) (.c (.int .i64 0))),
    .op (some 75) none (.mv (.t 74)),
    .op (some 76) (some (75, true)) (.mv (.t 0)),
    .op (some 77) (some (75, true)) (.mv (.t 1)),
    .op (some 78) (some (75, true)) (.bin .sub (.t 77) (.c (.int .i64 1))),
    .op (some 79) (some (75, true)) (.ixs 1 (.t 76) (.t 78)),
    .op (some 80) (some (75, true)) (.load none (.t 79)),
    .op (some 81) (some (75, true)) (.mv (.t 0)),
    .op (some 82) (some (75, true)) (.mv (.t 11)),
    .op (some 83) (some (75, true)) (.ixs 1 (.t 81) (.t 82)),
    .op (some 84) (some (75, true)) (.load none (.t 83)),
    .callG (some 85) (some (75, true)) (.c (.fn (.func 106) [] [])) [(.t 80), (.t 84)],
    .op (some 86) (some (75, true)) (.un .not (.t 85)),
    .op (some 87) none (.pick (.t 75) (.t 86) (.c (.bool false)))]
def c76r19 : List AStm := [.op (some 88) none (.mv (.t 0)),
    .op (some 89) none (.mv (.t 1)),
    .op (some 90) none (.mv (.t 2)),
    .op (some 91) none (.mv (.t 11)),
    .call (some 92) none (.c (.fn (.func 107) [] [])) [(.t 88), (.t 89), (.t 90), (.t 91)],
    .op (some 13) none (.mv (.t 92))]
def c76r20 : List AStm := [.op (some 93) none (.mv (.t 13)),
    .op (some 1) none (.mv (.t 93))]
def c76r21 : List AStm := [.op (some 95) none (.mv (.t 0)),
    .op (some 96) none (.mv (.t 1)),
    .op (some 97) none (.mv (.t 2)),
    .op (some 98) none (.mv (.t 11)),
    .call (some 99) none (.c (.fn (.func 108) [] [])) [(.t 95), (.t 96), (.t 97), (.t 98)],
    .op (some 94) none (.mv (.t 99)),
    .op (some 100) none (.ext (.t 94) 0),
    .op (some 101) none (.ext (.t 94) 1),
    .op (some 14) none (.mv (.t 100)),
    .op (some 15) none (.mv (.t 101))]
def c76r22 : List AStm := [.op (some 102) none (.mv (.t 15)),
    .op (some 9) none (.mv (.t 102))]
def c76r23 : List AStm := [.op (some 103) none (.mv (.t 14)),
    .op (some 104) none (.mv (.t 1)),
    .op (some 105) none (.bin .sub (.t 103) (.t 104)),
    .op (some 106) none (.mv (.t 2)),
    .op (some 107) none (.mv (.t 14)),
    .op (some 108) none (.bin .sub (.t 106) (.t 107)),
    .op (some 16) none (.mv (.t 105)),
    .op (some 17) none (.mv (.t 108))]
def c76r24 : List AStm := [.op (some 109) none (.mv (.t 10)),
    .op (some 110) none (.bin .quo (.t 109) (.c (.int .i64 8))),
    .op (some 18) none (.mv (.t 110))]
def c76r25 : List AStm := [.op (some 111) none (.mv (.t 16)),
    .op (some 112) none (.mv (.t 17)),
    .op (some 113) none (.bin .lss (.t 111) (.t 112))]
def c76r26 : List AStm := [.op (some 114) none (.mv (.t 16)),
    .op (some 115) none (.mv (.t 18)),
    .op (some 116) none (.bin .geq (.t 114) (.t 115)),
    .op (some 8) none (.mv (.t 116))]
def c76r27 : List AStm := [.op (some 117) none (.mv (.t 0)),
    .op (some 118) none (.mv (.t 1)),
    .op (some 119) none (.mv (.t 14)),
    .op (some 120) none (.mv (.t 3)),
    .call (some 121) none (.c (.fn (.func 76) [] [])) [(.t 117), (.t 118), (.t 119), (.t 120)]]
def c76r28 : List AStm := [.op (some 122) none (.mv (.t 14)),
    .op (some 123) none (.bin .add (.t 122) (.c (.int .i64 1))),
    .op (some 1) none (.mv (.t 123))]
def c76r29 : List AStm := [.op (some 124) none (.mv (.t 17)),
    .op (some 125) none (.mv (.t 18)),
    .op (some 126) none (.bin .geq (.t 124) (.t 125)),
    .op (some 8) none (.mv (.t 126))]
def c76r30 : List AStm := [.op (some 127) none (.mv (.t 0)),
    .op (some 128) none (.mv (.t 14)),
    .op (some 129) none (.bin .add (.t 128) (.c (.int .i64 1))),
    .op (some 130) none (.mv (.t 2)),
    .op (some 131) none (.mv (.t 3)),
    .call (some 132) none (.c (.fn (.func 76) [] [])) [(.t 127), (.t 129), (.t 130), (.t 131)]]
def c76r31 : List AStm := [.op (some 133) none (.mv (.t 14)),
    .op (some 2) none (.mv (.t 133))]
def c76l32 : AC := .block 1 (.seq (.reg c76r2) (.seq (.seq (.reg c76r3) (.cond (.t 23) (.seq (.reg c76r4) (.ret)) (.skip))) (.seq (.seq (.reg c76r5) (.cond (.t 29) (.seq (.reg c76r6) (.ret)) (.skip))) (.seq (.seq (.reg c76r7) (.cond (.t 35) (.seq (.reg c76r8) (.reg c76r9)) (.skip))) (.seq (.reg c76r10) (.seq (.seq (.reg c76r11) (.cond (.t 50) (.seq (.reg c76r12) (.seq (.reg c76r13) (.reg c76r14))) (.skip))) (.seq (.seq (.reg c76r15) (.cond (.t 68) (.seq (.reg c76r16) (.cond (.t 72) (.ret) (.skip))) (.skip))) (.seq (.seq (.dreg c76r17 c76r18) (.cond (.t 87) (.seq (.reg c76r19) (.seq (.reg c76r20) (.exit 1))) (.skip))) (.seq (.reg c76r21) (.seq (.reg c76r22) (.seq (.reg c76r23) (.seq (.reg c76r24) (.seq (.reg c76r25) (.cond (.t 113) (.seq (.reg c76r26) (.seq (.reg c76r27) (.reg c76r28))) (.seq (.reg c76r29) (.seq (.reg c76r30) (.reg c76r31)))))))))))))))))
def c76 : CF := ⟨.seq (.reg c76r0) (.seq (.reg c76r1) (.block 0 (.loop c76l32))), [], 134⟩
theorem cf76 : cfun Try.prog 76 = some c76 := by kernel_rfl

/-! ### internal/stringslite.Index, params 2 -/
def c80r0 : List AStm := [.op (some 4) none (.mv (.c (.int .i64 0)))]
def c80r1 : List AStm := [.op (some 14) none (.mv (.t 1)),
    .op (some 15) none (.len true (.t 14)),
    .op (some 5) none (.mv (.t 15))]
def c80r2 : List AStm := [.op (some 17) none (.mv (.t 5)),
    .op (some 18) none (.bin .eql (.t 17) (.c (.int .i64 0))),
    .op (some 19) none (.mv (.t 18)),
    .op (some 20) (some (19, false)) (.mv (.t 1)),
    .op (some 21) (some (19, false)) (.mv (.t 0)),
    .op (some 22) (some (19, false)) (.bin .eql (.t 20) (.t 21)),
    .op (some 23) none (.pick (.t 19) (.c (.bool true)) (.t 22)),
    .op (some 16) none (.mv (.t 23))]
def c80r3 : List AStm := [.op (some 4) none (.mv (.c (.int .i64 0)))]
def c80r4 : List AStm := [.op (some 25) none (.mv (.t 5)),
    .op (some 26) none (.bin .eql (.t 25) (.c (.int .i64 1))),
    .op (some 24) none (.mv (.t 26))]
def c80r5 : List AStm := [.op (some 27) none (.mv (.t 0)),
    .op (some 28) none (.mv (.t 1)),
    .op (some 29) none (.ixstr (.t 28) (.c (.int .i64 0))),
    .call (some 30) none (.c (.fn (.func 111) [] [])) [(.t 27), (.t 29)],
    .op (some 4) none (.mv (.t 30))]
def c80r6 : List AStm := [.op (some 32) none (.mv (.t 5)),
    .op (some 33) none (.mv (.t 0)),
    .op (some 34) none (.len true (.t 33)),
    .op (some 35) none (.bin .geq (.t 32) (.t 34)),
    .op (some 31) none (.mv (.t 35))]
def c80r7 : List AStm := [.op (some 4) none (.mv (.c (.int .i64 (-1))))]
def c80r8 : List AStm := [.op (some 45) none (.mv (.t 0)),
    .op (some 46) none (.mv (.t 1)),
    .call (some 47) none (.c (.fn (.func 112) [] [])) [(.t 45), (.t 46)],
    .op (some 4) none (.mv (.t 47))]
def c80r9 : List AStm := [.op (some 48) none (.mv (.t 1)),
    .op (some 49) none (.ixstr (.t 48) (.c (.int .i64 0))),
    .op (some 6) none (.mv (.t 49))]
def c80r10 : List AStm := [.op (some 50) none (.mv (.t 1)),
    .op (some 51) none (.ixstr (.t 50) (.c (.int .i64 1))),
    .op (some 7) none (.mv (.t 51))]
def c80r11 : List AStm := [.op (some 8) none (.mv (.c (.int .i64 0)))]
def c80r12 : List AStm := [.op (some 52) none (.mv (.t 0)),
    .op (some 53) none (.len true (.t 52)),
    .op (some 54) none (.mv (.t 5)),
    .op (some 55) none (.bin .sub (.t 53) (.t 54)),
    .op (some 56) none (.bin .add (.t 55) (.c (.int .i64 1))),
    .op (some 9) none (.mv (.t 56))]
def c80r13 : List AStm := [.op (some 10) none (.mv (.c (.int .i64 0)))]
def c80r14 : List AStm := [.op (some 57) none (.mv (.t 8)),
    .op (some 58) none (.mv (.t 9)),
    .op (some 59) none (.bin .lss (.t 57) (.t 58))]
def c80r15 : List AStm := [.op (some 60) none (.mv (.t 0)),
    .op (some 61) none (.mv (.t 8)),
    .op (some 62) none (.ixstr (.t 60) (.t 61)),
    .op (some 63) none (.mv (.t 6)),
    .op (some 64) none (.bin .neq (.t 62) (.t 63))]
def c80r16 : List AStm := [.op (some 65) none (.mv (.t 0)),
    .op (some 66) none (.mv (.t 8)),
    .op (some 67) none (.bin .add (.t 66) (.c (.int .i64 1))),
    .op (some 68) none (.mv (.t 9)),
    .op (some 69) none (.sstr (.t 65) (some (.t 67)) (some (.t 68))),
    .op (some 70) none (.mv (.t 6)),
    .call (some 71) none (.c (.fn (.func 111) [] [])) [(.t 69), (.t 70)],
    .op (some 11) none (.mv (.t 71))]
def c80r17 : List AStm := [.op (some 72) none (.mv (.t 11)),
    .op (some 73) none (.bin .lss (.t 72) (.c (.int .i64 0)))]
def c80r18 : List AStm := [.op (some 4) none (.mv (.c (.int .i64 (-1))))]
def c80r19 : List AStm := [.op (some 74) none (.mv (.t 8)),
    .op (some 75) none (.mv (.t 11)),
    .op (some 76) none (.bin .add (.t 75) (.c (.int .i64 1))),
    .op (some 77) none (.bin .add (.t 74) (.t 76)),
    .op (some 8) none (.mv (.t 77))]
def c80r20 : List AStm := [.op (some 78) none (.mv (.t 0)),
    .op (some 79) none (.mv (.t 8)),
    .op (some 80) none (.bin .add (.t 79) (.c (.int .i64 1))),
    .op (some 81) none (.ixstr (.t 78) (.t 80)),
    .op (some 82) none (.mv (.t 7)),
    .op (some 83) none (.bin .eql (.t 81) (.t 82)),
    .op (some 84) none (.mv (.t 83)),
    .op (some 85) (some (84, true)) (.mv (.t 0)),
    .op (some 86) (some (84, true)) (.mv (.t 8)),
    .op (some 87) (some (84, true)) (.mv (.t 8)),
    .op (some 88) (some (84, true)) (.mv (.t 5)),
    .op (some 89) (some (84, true)) (.bin .add (.t 87) (.t 88)),
    .op (some 90) (some (84, true)) (.sstr (.t 85) (some (.t 86)) (some (.t 89))),
    .op (some 91) (some (84, true)) (.mv (.t 1)),
    .op (some 92) (some (84, true)) (.bin .eql (.t 90) (.t 91)),
    .op (some 93) none (.pick (.t 84) (.t 92) (.c (.bool false)))]
def c80r21 : List AStm := [.op (some 94) none (.mv (.t 8)),
    .op (some 4) none (.mv (.t 94))]
def c80r22 : List AStm := [.op (some 95) none (.mv (.t 8)),
    .op (some 96) none (.bin .add (.t 95) (.c (.int .i64 1))),
    .op (some 8) none (.mv (.t 96))]
def c80r23 : List AStm := [.op (some 97) none (.mv (.t 10)),
    .op (some 98) none (.bin .add (.t 97) (.c (.int .i64 1))),
    .op (some 10) none (.mv (.t 98))]
def c80r24 : List AStm := [.op (some 108) none (.mv (.t 0)),
    .op (some 109) none (.mv (.t 8)),
    .op (some 110) none (.sstr (.t 108) (some (.t 109)) none),
    .op (some 111) none (.mv (.t 1)),
    .call (some 112) none (.c (.fn (.func 112) [] [])) [(.t 110), (.t 111)],
    .op (some 12) none (.mv (.t 112))]
def c80r25 : List AStm := [.op (some 113) none (.mv (.t 12)),
    .op (some 114) none (.bin .geq (.t 113) (.c (.int .i64 0)))]
def c80r26 : List AStm := [.op (some 115) none (.mv (.t 12)),
    .op (some 116) none (.mv (.t 8)),
    .op (some 117) none (.bin .add (.t 115) (.t 116)),
    .op (some 4) none (.mv (.t 117))]
def c80r27 : List AStm := [.op (some 4) none (.mv (.c (.int .i64 (-1))))]
def c80r28 : List AStm := [.op (some 133) none (.mv (.t 0)),
    .op (some 134) none (.mv (.t 8)),
    .op (some 135) none (.sstr (.t 133) (some (.t 134)) none),
    .op (some 136) none (.mv (.t 1)),
    .call (some 137) none (.c (.fn (.func 114) [] [])) [(.t 135), (.t 136)],
    .op (some 13) none (.mv (.t 137))]
def c80r29 : List AStm := [.op (some 138) none (.mv (.t 13)),
    .op (some 139) none (.bin .lss (.t 138) (.c (.int .i64 0)))]
def c80r30 : List AStm := [.op (some 4) none (.mv (.c (.int .i64 (-1))))]
def c80r31 : List AStm := [.op (some 140) none (.mv (.t 8)),
    .op (some 141) none (.mv (.t 13)),
    .op (some 142) none (.bin .add (.t 140) (.t 141)),
    .op (some 4) none (.mv (.t 142))]
def c80l32 : AC := .seq (.seq (.reg c80r14) (.cond (.t 59) (.skip) (.exit 1))) (.block 2 (.seq (.seq (.reg c80r15) (.cond (.t 64) (.seq (.reg c80r16) (.seq (.seq (.reg c80r17) (.cond (.t 73) (.seq (.reg c80r18) (.ret)) (.skip))) (.reg c80r19))) (.skip))) (.seq (.seq (.reg c80r20) (.cond (.t 93) (.seq (.reg c80r21) (.ret)) (.skip))) (.seq (.reg c80r22) (.seq (.reg c80r23) (.seq (.bad) (.cond (.t 107) (.seq (.reg c80r24) (.seq (.seq (.reg c80r25) (.cond (.t 114) (.seq (.reg c80r26) (.ret)) (.skip))) (.seq (.reg c80r27) (.ret)))) (.seq (.bad) (.cond (.t 132) (.seq (.reg c80r28) (.seq (.seq (.reg c80r29) (.cond (.t 139) (.seq (.reg c80r30) (.ret)) (.skip))) (.seq (.reg c80r31) (.ret)))) (.skip))))))))))
def c80r33 : List AStm := [.op (some 4) none (.mv (.c (.int .i64 (-1))))]
def c80 : CF := ⟨.seq (.reg c80r0) (.seq (.reg c80r1) (.seq (.block 0 (.seq (.reg c80r2) (.cond (.t 16) (.seq (.reg c80r3) (.ret)) (.seq (.reg c80r4) (.cond (.t 24) (.seq (.reg c80r5) (.ret)) (.seq (.reg c80r6) (.cond (.t 31) (.seq (.reg c80r7) (.ret)) (.seq (.bad) (.cond (.t 36) (.seq (.reg c80r8) (.ret)) (.skip)))))))))) (.seq (.reg c80r9) (.seq (.reg c80r10) (.seq (.reg c80r11) (.seq (.reg c80r12) (.seq (.reg c80r13) (.seq (.block 1 (.loop c80l32)) (.seq (.reg c80r33) (.ret)))))))))), [.tmp 4], 143⟩
theorem cf80 : cfun Try.prog 80 = some c80 := by kernel_rfl

/-! ### weighbridge/wide.twice, params 2 -/
def c81r0 : List AStm := [.op (some 2) none (.box (.t 0)),
    .op (some 4) none (.alloc [(.int .u64 0), (.int .u64 0)])]
def c81r1 : List AStm := [.op (some 5) none (.faddr 0 (.t 2)),
    .op (some 6) none (.load none (.t 5)),
    .op (some 7) none (.bin .shl (.t 6) (.c (.int .u64 1))),
    .op (some 8) none (.faddr 1 (.t 2)),
    .op (some 9) none (.load none (.t 8)),
    .op (some 10) none (.bin .shr (.t 9) (.c (.int .u64 63))),
    .op (some 11) none (.bin .or (.t 7) (.t 10)),
    .op (some 12) none (.faddr 1 (.t 2)),
    .op (some 13) none (.load none (.t 12)),
    .op (some 14) none (.bin .shl (.t 13) (.c (.int .u64 1))),
    .op (some 15) none (.mv (.t 1)),
    .op (some 16) none (.bin .or (.t 14) (.t 15)),
    .op (some 17) none (.build [(.int .u64 0), (.int .u64 0)] [(0, 1, (.t 11)), (1, 1, (.t 16))]),
    .op none none (.store 2 (.t 4) (.t 17))]
def c81 : CF := ⟨.seq (.reg c81r0) (.seq (.reg c81r1) (.ret)), [.cell 4 (some 2)], 18⟩
theorem cf81 : cfun Try.prog 81 = some c81 := by kernel_rfl

/-! ### weighbridge/wide.Less, params 2 -/
def c82r0 : List AStm := [.op (some 2) none (.box (.t 0)),
    .op (some 3) none (.box (.t 1)),
    .op (some 4) none (.mv (.c (.bool false)))]
def c82r1 : List AStm := [.op (some 5) none (.faddr 0 (.t 2)),
    .op (some 6) none (.load none (.t 5)),
    .op (some 7) none (.faddr 0 (.t 3)),
    .op (some 8) none (.load none (.t 7)),
    .op (some 9) none (.bin .neq (.t 6) (.t 8))]
def c82r2 : List AStm := [.op (some 10) none (.faddr 0 (.t 2)),
    .op (some 11) none (.load none (.t 10)),
    .op (some 12) none (.faddr 0 (.t 3)),
    .op (some 13) none (.load none (.t 12)),
    .op (some 14) none (.bin .lss (.t 11) (.t 13)),
    .op (some 4) none (.mv (.t 14))]
def c82r3 : List AStm := [.op (some 15) none (.faddr 1 (.t 2)),
    .op (some 16) none (.load none (.t 15)),
    .op (some 17) none (.faddr 1 (.t 3)),
    .op (some 18) none (.load none (.t 17)),
    .op (some 19) none (.bin .lss (.t 16) (.t 18)),
    .op (some 4) none (.mv (.t 19))]
def c82 : CF := ⟨.seq (.reg c82r0) (.seq (.seq (.reg c82r1) (.cond (.t 9) (.seq (.reg c82r2) (.ret)) (.skip))) (.seq (.reg c82r3) (.ret))), [.tmp 4], 20⟩
theorem cf82 : cfun Try.prog 82 = some c82 := by kernel_rfl

/-! ### weighbridge/wide.Sub, params 2 -/
def c83r0 : List AStm := [.op (some 2) none (.box (.t 0)),
    .op (some 3) none (.box (.t 1)),
    .op (some 4) none (.alloc [(.int .u64 0), (.int .u64 0)]),
    .op (some 5) none (.mv (.c (.bool false)))]
def c83r1 : List AStm := [.op (some 7) none (.faddr 0 (.t 2)),
    .op (some 8) none (.load none (.t 7)),
    .op (some 9) none (.faddr 0 (.t 3)),
    .op (some 10) none (.load none (.t 9)),
    .op (some 11) none (.bin .sub (.t 8) (.t 10)),
    .op (some 12) none (.faddr 1 (.t 2)),
    .op (some 13) none (.load none (.t 12)),
    .op (some 14) none (.faddr 1 (.t 3)),
    .op (some 15) none (.load none (.t 14)),
    .op (some 16) none (.bin .sub (.t 13) (.t 15)),
    .op (some 17) none (.build [(.int .u64 0), (.int .u64 0)] [(0, 1, (.t 11)), (1, 1, (.t 16))]),
    .op (some 6) none (.alloc [(.int .u64 0), (.int .u64 0)]),
    .op none none (.store 2 (.t 6) (.t 17))]
def c83r2 : List AStm := [.op (some 18) none (.faddr 1 (.t 2)),
    .op (some 19) none (.load none (.t 18)),
    .op (some 20) none (.faddr 1 (.t 3)),
    .op (some 21) none (.load none (.t 20)),
    .op (some 22) none (.bin .lss (.t 19) (.t 21))]
def c83r3 : List AStm := [.op (some 23) none (.faddr 0 (.t 6)),
    .op (some 24) none (.load none (.t 23)),
    .op (some 25) none (.bin .sub (.t 24) (.c (.int .u64 1))),
    .op (some 26) none (.faddr 0 (.t 6)),
    .op none none (.store 1 (.t 26) (.t 25))]
def c83r4 : List AStm := []
def c83r5 : List AStm := [.op (some 27) none (.load (some 2) (.t 6)),
    .op (some 28) none (.load (some 2) (.t 2)),
    .op (some 29) none (.load (some 2) (.t 3)),
    .callG (some 30) none (.c (.fn (.func 82) [] [])) [(.t 28), (.t 29)],
    .op none none (.store 2 (.t 4) (.t 27)),
    .op (some 5) none (.mv (.t 30))]
def c83 : CF := ⟨.seq (.reg c83r0) (.seq (.reg c83r1) (.seq (.seq (.reg c83r2) (.cond (.t 22) (.reg c83r3) (.skip))) (.seq (.dreg c83r4 c83r5) (.ret)))), [.cell 4 (some 2), .tmp 5], 31⟩
theorem cf83 : cfun Try.prog 83 = some c83 := by kernel_rfl

/-! ### slices.insertionSortCmpFunc[weighbridge/api.Span], params 4 -/
def c90r0 : List AStm := [.op (some 10) none (.mv (.t 1)),
    .op (some 11) none (.bin .add (.t 10) (.c (.int .i64 1))),
    .op (some 8) none (.mv (.t 11))]
def c90r1 : List AStm := [.op (some 12) none (.mv (.t 8)),
    .op (some 13) none (.mv (.t 2)),
    .op (some 14) none (.bin .lss (.t 12) (.t 13))]
def c90r2 : List AStm := [.op (some 17) none (.mv (.t 8)),
    .op (some 9) none (.mv (.t 17))]
def c90r3 : List AStm := []
def c90r4 : List AStm := [.op (some 18) none (.mv (.t 9)),
    .op (some 19) none (.mv (.t 1)),
    .op (some 20) none (.bin .gtr (.t 18) (.t 19)),
    .op (some 21) none (.mv (.t 20)),
    .op (some 22) (some (21, true)) (.mv (.t 3)),
    .op (some 23) (some (21, true)) (.mv (.t 0)),
    .op (some 24) (some (21, true)) (.mv (.t 9)),
    .op (some 25) (some (21, true)) (.ixs 2 (.t 23) (.t 24)),
    .op (some 26) (some (21, true)) (.load (some 2) (.t 25)),
    .op (some 27) (some (21, true)) (.mv (.t 0)),
    .op (some 28) (some (21, true)) (.mv (.t 9)),
    .op (some 29) (some (21, true)) (.bin .sub (.t 28) (.c (.int .i64 1))),
    .op (some 30) (some (21, true)) (.ixs 2 (.t 27) (.t 29)),
    .op (some 31) (some (21, true)) (.load (some 2) (.t 30)),
    .callG (some 32) (some (21, true)) (.t 22) [(.t 26), (.t 31)],
    .op (some 33) (some (21, true)) (.bin .lss (.t 32) (.c (.int .i64 0))),
    .op (some 34) none (.pick (.t 21) (.t 33) (.c (.bool false)))]
def c90r5 : List AStm := [.op (some 37) none (.mv (.t 0)),
    .op (some 38) none (.mv (.t 9)),
    .op (some 39) none (.mv (.t 0)),
    .op (some 40) none (.mv (.t 9)),
    .op (some 41) none (.bin .sub (.t 40) (.c (.int .i64 1))),
    .op (some 42) none (.mv (.t 0)),
    .op (some 43) none (.mv (.t 9)),
    .op (some 44) none (.bin .sub (.t 43) (.c (.int .i64 1))),
    .op (some 45) none (.ixs 2 (.t 42) (.t 44)),
    .op (some 46) none (.load (some 2) (.t 45)),
    .op (some 47) none (.mv (.t 0)),
    .op (some 48) none (.mv (.t 9)),
    .op (some 49) none (.ixs 2 (.t 47) (.t 48)),
    .op (some 50) none (.load (some 2) (.t 49)),
    .op (some 51) none (.ixs 2 (.t 37) (.t 38)),
    .op none none (.store 2 (.t 51) (.t 46)),
    .op (some 52) none (.ixs 2 (.t 39) (.t 41)),
    .op none none (.store 2 (.t 52) (.t 50))]
def c90r6 : List AStm := []
def c90r7 : List AStm := [.op (some 35) none (.mv (.t 9)),
    .op (some 36) none (.bin .sub (.t 35) (.c (.int .i64 1))),
    .op (some 9) none (.mv (.t 36))]
def c90l8 : AC := .seq (.seq (.dreg c90r3 c90r4) (.cond (.t 34) (.skip) (.exit 2))) (.seq (.block 3 (.dreg c90r5 c90r6)) (.reg c90r7))
def c90r9 : List AStm := [.op (some 15) none (.mv (.t 8)),
    .op (some 16) none (.bin .add (.t 15) (.c (.int .i64 1))),
    .op (some 8) none (.mv (.t 16))]
def c90l10 : AC := .seq (.seq (.reg c90r1) (.cond (.t 14) (.skip) (.exit 0))) (.seq (.block 1 (.seq (.reg c90r2) (.block 2 (.loop c90l8)))) (.reg c90r9))
def c90 : CF := ⟨.seq (.reg c90r0) (.block 0 (.loop c90l10)), [], 53⟩
theorem cf90 : cfun Try.prog 90 = some c90 := by kernel_rfl

/-! ### slices.heapSortCmpFunc[weighbridge/api.Span], params 4 -/
def c91r0 : List AStm := [.op (some 13) none (.mv (.t 1)),
    .op (some 8) none (.mv (.t 13))]
def c91r1 : List AStm := [.op (some 9) none (.mv (.c (.int .i64 0)))]
def c91r2 : List AStm := [.op (some 14) none (.mv (.t 2)),
    .op (some 15) none (.mv (.t 1)),
    .op (some 16) none (.bin .sub (.t 14) (.t 15)),
    .op (some 10) none (.mv (.t 16))]
def c91r3 : List AStm := [.op (some 17) none (.mv (.t 10)),
    .op (some 18) none (.bin .sub (.t 17) (.c (.int .i64 1))),
    .op (some 19) none (.bin .quo (.t 18) (.c (.int .i64 2))),
    .op (some 11) none (.mv (.t 19))]
def c91r4 : List AStm := [.op (some 20) none (.mv (.t 11)),
    .op (some 21) none (.bin .geq (.t 20) (.c (.int .i64 0)))]
def c91r5 : List AStm := [.op (some 24) none (.mv (.t 0)),
    .op (some 25) none (.mv (.t 11)),
    .op (some 26) none (.mv (.t 10)),
    .op (some 27) none (.mv (.t 8)),
    .op (some 28) none (.mv (.t 3)),
    .call (some 29) none (.c (.fn (.func 115) [] [])) [(.t 24), (.t 25), (.t 26), (.t 27), (.t 28)]]
def c91r6 : List AStm := [.op (some 22) none (.mv (.t 11)),
    .op (some 23) none (.bin .sub (.t 22) (.c (.int .i64 1))),
    .op (some 11) none (.mv (.t 23))]
def c91l7 : AC := .seq (.seq (.reg c91r4) (.cond (.t 21) (.skip) (.exit 0))) (.seq (.block 1 (.reg c91r5)) (.reg c91r6))
def c91r8 : List AStm := [.op (some 30) none (.mv (.t 10)),
    .op (some 31) none (.bin .sub (.t 30) (.c (.int .i64 1))),
    .op (some 12) none (.mv (.t 31))]
def c91r9 : List AStm := [.op (some 32) none (.mv (.t 12)),
    .op (some 33) none (.bin .geq (.t 32) (.c (.int .i64 0)))]
def c91r10 : List AStm := [.op (some 36) none (.mv (.t 0)),
    .op (some 37) none (.mv (.t 8)),
    .op (some 38) none (.mv (.t 0)),
    .op (some 39) none (.mv (.t 8)),
    .op (some 40) none (.mv (.t 12)),
    .op (some 41) none (.bin .add (.t 39) (.t 40)),
    .op (some 42) none (.mv (.t 0)),
    .op (some 43) none (.mv (.t 8)),
    .op (some 44) none (.mv (.t 12)),
    .op (some 45) none (.bin .add (.t 43) (.t 44)),
    .op (some 46) none (.ixs 2 (.t 42) (.t 45)),
    .op (some 47) none (.load (some 2) (.t 46)),
    .op (some 48) none (.mv (.t 0)),
    .op (some 49) none (.mv (.t 8)),
    .op (some 50) none (.ixs 2 (.t 48) (.t 49)),
    .op (some 51) none (.load (some 2) (.t 50)),
    .op (some 52) none (.ixs 2 (.t 36) (.t 37)),
    .op none none (.store 2 (.t 52) (.t 47)),
    .op (some 53) none (.ixs 2 (.t 38) (.t 41)),
    .op none none (.store 2 (.t 53) (.t 51))]
def c91r11 : List AStm := []
def c91r12 : List AStm := [.op (some 54) none (.mv (.t 0)),
    .op (some 55) none (.mv (.t 9)),
    .op (some 56) none (.mv (.t 12)),
    .op (some 57) none (.mv (.t 8)),
    .op (some 58) none (.mv (.t 3)),
    .call (some 59) none (.c (.fn (.func 115) [] [])) [(.t 54), (.t 55), (.t 56), (.t 57), (.t 58)]]
def c91r13 : List AStm := [.op (some 34) none (.mv (.t 12)),
    .op (some 35) none (.bin .sub (.t 34) (.c (.int .i64 1))),
    .op (some 12) none (.mv (.t 35))]
def c91l14 : AC := .seq (.seq (.reg c91r9) (.cond (.t 33) (.skip) (.exit 2))) (.seq (.block 3 (.seq (.dreg c91r10 c91r11) (.reg c91r12))) (.reg c91r13))
def c91 : CF := ⟨.seq (.reg c91r0) (.seq (.reg c91r1) (.seq (.reg c91r2) (.seq (.seq (.reg c91r3) (.block 0 (.loop c91l7))) (.seq (.reg c91r8) (.block 2 (.loop c91l14)))))), [], 60⟩
theorem cf91 : cfun Try.prog 91 = some c91 := by kernel_rfl

/-! ### slices.breakPatternsCmpFunc[weighbridge/api.Span], params 4 -/
def c92r0 : List AStm := [.op (some 13) none (.mv (.t 2)),
    .op (some 14) none (.mv (.t 1)),
    .op (some 15) none (.bin .sub (.t 13) (.t 14)),
    .op (some 8) none (.mv (.t 15))]
def c92r1 : List AStm := [.op (some 16) none (.mv (.t 8)),
    .op (some 17) none (.bin .geq (.t 16) (.c (.int .i64 8)))]
def c92r2 : List AStm := [.op (some 18) none (.mv (.t 8)),
    .op (some 19) none (.conv .u64 (.t 18)),
    .op (some 9) none (.alloc [(.int .u64 0)]),
    .op none none (.store 1 (.t 9) (.t 19))]
def c92r3 : List AStm := [.op (some 20) none (.mv (.t 8)),
    .call (some 21) none (.c (.fn (.func 116) [] [])) [(.t 20)],
    .op (some 10) none (.mv (.t 21))]
def c92r4 : List AStm := [.op (some 22) none (.mv (.t 1)),
    .op (some 23) none (.mv (.t 8)),
    .op (some 24) none (.bin .quo (.t 23) (.c (.int .i64 4))),
    .op (some 25) none (.bin .mul (.t 24) (.c (.int .i64 2))),
    .op (some 26) none (.bin .add (.t 22) (.t 25)),
    .op (some 27) none (.bin .sub (.t 26) (.c (.int .i64 1))),
    .op (some 11) none (.mv (.t 27))]
def c92r5 : List AStm := [.op (some 28) none (.mv (.t 11)),
    .op (some 29) none (.mv (.t 1)),
    .op (some 30) none (.mv (.t 8)),
    .op (some 31) none (.bin .quo (.t 30) (.c (.int .i64 4))),
    .op (some 32) none (.bin .mul (.t 31) (.c (.int .i64 2))),
    .op (some 33) none (.bin .add (.t 29) (.t 32)),
    .op (some 34) none (.bin .add (.t 33) (.c (.int .i64 1))),
    .op (some 35) none (.bin .leq (.t 28) (.t 34))]
def c92r6 : List AStm := [.call (some 38) none (.c (.fn (.func 117) [] [])) [(.t 9)],
    .op (some 39) none (.mv (.t 10)),
    .op (some 40) none (.bin .sub (.t 39) (.c (.int .u64 1))),
    .op (some 41) none (.bin .and (.t 38) (.t 40)),
    .op (some 42) none (.conv .i64 (.t 41)),
    .op (some 12) none (.mv (.t 42))]
def c92r7 : List AStm := [.op (some 43) none (.mv (.t 12)),
    .op (some 44) none (.mv (.t 8)),
    .op (some 45) none (.bin .geq (.t 43) (.t 44))]
def c92r8 : List AStm := [.op (some 46) none (.mv (.t 12)),
    .op (some 47) none (.mv (.t 8)),
    .op (some 48) none (.bin .sub (.t 46) (.t 47)),
    .op (some 12) none (.mv (.t 48))]
def c92r9 : List AStm := [.op (some 49) none (.mv (.t 0)),
    .op (some 50) none (.mv (.t 11)),
    .op (some 51) none (.mv (.t 0)),
    .op (some 52) none (.mv (.t 1)),
    .op (some 53) none (.mv (.t 12)),
    .op (some 54) none (.bin .add (.t 52) (.t 53)),
    .op (some 55) none (.mv (.t 0)),
    .op (some 56) none (.mv (.t 1)),
    .op (some 57) none (.mv (.t 12)),
    .op (some 58) none (.bin .add (.t 56) (.t 57)),
    .op (some 59) none (.ixs 2 (.t 55) (.t 58)),
    .op (some 60) none (.load (some 2) (.t 59)),
    .op (some 61) none (.mv (.t 0)),
    .op (some 62) none (.mv (.t 11)),
    .op (some 63) none (.ixs 2 (.t 61) (.t 62)),
    .op (some 64) none (.load (some 2) (.t 63)),
    .op (some 65) none (.ixs 2 (.t 49) (.t 50)),
    .op none none (.store 2 (.t 65) (.t 60)),
    .op (some 66) none (.ixs 2 (.t 51) (.t 54)),
    .op none none (.store 2 (.t 66) (.t 64))]
def c92r10 : List AStm := []
def c92r11 : List AStm := [.op (some 36) none (.mv (.t 11)),
    .op (some 37) none (.bin .add (.t 36) (.c (.int .i64 1))),
    .op (some 11) none (.mv (.t 37))]
def c92l12 : AC := .seq (.seq (.reg c92r5) (.cond (.t 35) (.skip) (.exit 0))) (.seq (.block 1 (.seq (.reg c92r6) (.seq (.seq (.reg c92r7) (.cond (.t 45) (.reg c92r8) (.skip))) (.dreg c92r9 c92r10)))) (.reg c92r11))
def c92 : CF := ⟨.seq (.reg c92r0) (.seq (.reg c92r1) (.cond (.t 17) (.seq (.reg c92r2) (.seq (.reg c92r3) (.seq (.reg c92r4) (.block 0 (.loop c92l12))))) (.skip))), [], 67⟩
theorem cf92 : cfun Try.prog 92 = some c92 := by kernel_rfl

/-! ### slices.choosePivotCmpFunc[weighbridge/api.Span], params 4 -/
def c93r0 : List AStm := [.op (some 8) none (.mv (.c (.int .i64 0))),
    .op (some 9) none (.mv (.c (.int .i64 0)))]
def c93r1 : List AStm := [.op (some 15) none (.mv (.t 2)),
    .op (some 16) none (.mv (.t 1)),
    .op (some 17) none (.bin .sub (.t 15) (.t 16)),
    .op (some 10) none (.mv (.t 17))]
def c93r2 : List AStm := [.op (some 11) none (.alloc [(.int .i64 0)])]
def c93r3 : List AStm := [.op (some 18) none (.mv (.t 1)),
    .op (some 19) none (.mv (.t 10)),
    .op (some 20) none (.bin .quo (.t 19) (.c (.int .i64 4))),
    .op (some 21) none (.bin .mul (.t 20) (.c (.int .i64 1))),
    .op (some 22) none (.bin .add (.t 18) (.t 21)),
    .op (some 12) none (.mv (.t 22))]
def c93r4 : List AStm := [.op (some 23) none (.mv (.t 1)),
    .op (some 24) none (.mv (.t 10)),
    .op (some 25) none (.bin .quo (.t 24) (.c (.int .i64 4))),
    .op (some 26) none (.bin .mul (.t 25) (.c (.int .i64 2))),
    .op (some 27) none (.bin .add (.t 23) (.t 26)),
    .op (some 13) none (.mv (.t 27))]
def c93r5 : List AStm := [.op (some 28) none (.mv (.t 1)),
    .op (some 29) none (.mv (.t 10)),
    .op (some 30) none (.bin .quo (.t 29) (.c (.int .i64 4))),
    .op (some 31) none (.bin .mul (.t 30) (.c (.int .i64 3))),
    .op (some 32) none (.bin .add (.t 28) (.t 31)),
    .op (some 14) none (.mv (.t 32))]
def c93r6 : List AStm := [.op (some 33) none (.mv (.t 10)),
    .op (some 34) none (.bin .geq (.t 33) (.c (.int .i64 8)))]
def c93r7 : List AStm := [.op (some 35) none (.mv (.t 10)),
    .op (some 36) none (.bin .geq (.t 35) (.c (.int .i64 50)))]
def c93r8 : List AStm := [.op (some 37) none (.mv (.t 0)),
    .op (some 38) none (.mv (.t 12)),
    .op (some 39) none (.mv (.t 3)),
    .call (some 40) none (.c (.fn (.func 118) [] [])) [(.t 37), (.t 38), (.t 11), (.t 39)],
    .op (some 12) none (.mv (.t 40))]
def c93r9 : List AStm := [.op (some 41) none (.mv (.t 0)),
    .op (some 42) none (.mv (.t 13)),
    .op (some 43) none (.mv (.t 3)),
    .call (some 44) none (.c (.fn (.func 118) [] [])) [(.t 41), (.t 42), (.t 11), (.t 43)],
    .op (some 13) none (.mv (.t 44))]
def c93r10 : List AStm := [.op (some 45) none (.mv (.t 0)),
    .op (some 46) none (.mv (.t 14)),
    .op (some 47) none (.mv (.t 3)),
    .call (some 48) none (.c (.fn (.func 118) [] [])) [(.t 45), (.t 46), (.t 11), (.t 47)],
    .op (some 14) none (.mv (.t 48))]
def c93r11 : List AStm := [.op (some 49) none (.mv (.t 0)),
    .op (some 50) none (.mv (.t 12)),
    .op (some 51) none (.mv (.t 13)),
    .op (some 52) none (.mv (.t 14)),
    .op (some 53) none (.mv (.t 3)),
    .call (some 54) none (.c (.fn (.func 119) [] [])) [(.t 49), (.t 50), (.t 51), (.t 52), (.t 11), (.t 53)],
    .op (some 13) none (.mv (.t 54))]
def c93r12 : List AStm := [.op (some 55) none (.load none (.t 11))]
def c93r13 : List AStm := [.op (some 58) none (.bin .eql (.t 55) (.c (.int .i64 0))),
    .op (some 57) none (.mv (.t 58))]
def c93r14 : List AStm := [.op (some 59) none (.mv (.t 13)),
    .op (some 8) none (.mv (.t 59)),
    .op (some 9) none (.mv (.c (.int .i64 1)))]
def c93r15 : List AStm := [.op (some 61) none (.bin .eql (.t 55) (.c (.int .i64 12))),
    .op (some 60) none (.mv (.t 61))]
def c93r16 : List AStm := [.op (some 62) none (.mv (.t 13)),
    .op (some 8) none (.mv (.t 62)),
    .op (some 9) none (.mv (.c (.int .i64 2)))]
def c93r17 : List AStm := [.op (some 56) none (.mv (.t 13)),
    .op (some 8) none (.mv (.t 56)),
    .op (some 9) none (.mv (.c (.int .i64 0)))]
def c93 : CF := ⟨.seq (.reg c93r0) (.seq (.reg c93r1) (.seq (.reg c93r2) (.seq (.reg c93r3) (.seq (.reg c93r4) (.seq (.reg c93r5) (.seq (.seq (.reg c93r6) (.cond (.t 34) (.seq (.seq (.reg c93r7) (.cond (.t 36) (.seq (.reg c93r8) (.seq (.reg c93r9) (.reg c93r10))) (.skip))) (.reg c93r11)) (.skip))) (.seq (.reg c93r12) (.block 0 (.seq (.reg c93r13) (.cond (.t 57) (.seq (.reg c93r14) (.ret)) (.seq (.reg c93r15) (.cond (.t 60) (.seq (.reg c93r16) (.ret)) (.seq (.reg c93r17) (.ret)))))))))))))), [.tmp 8, .tmp 9], 63⟩
theorem cf93 : cfun Try.prog 93 = some c93 := by kernel_rfl

/-! ### slices.reverseRangeCmpFunc[weighbridge/api.Span], params 4 -/
def c94r0 : List AStm := [.op (some 10) none (.mv (.t 1)),
    .op (some 8) none (.mv (.t 10))]
def c94r1 : List AStm := [.op (some 11) none (.mv (.t 2)),
    .op (some 12) none (.bin .sub (.t 11) (.c (.int .i64 1))),
    .op (some 9) none (.mv (.t 12))]
def c94r2 : List AStm := [.op (some 13) none (.mv (.t 8)),
    .op (some 14) none (.mv (.t 9)),
    .op (some 15) none (.bin .lss (.t 13) (.t 14))]
def c94r3 : List AStm := [.op (some 16) none (.mv (.t 0)),
    .op (some 17) none (.mv (.t 8)),
    .op (some 18) none (.mv (.t 0)),
    .op (some 19) none (.mv (.t 9)),
    .op (some 20) none (.mv (.t 0)),
    .op (some 21) none (.mv (.t 9)),
    .op (some 22) none (.ixs 2 (.t 20) (.t 21)),
    .op (some 23) none (.load (some 2) (.t 22)),
    .op (some 24) none (.mv (.t 0)),
    .op (some 25) none (.mv (.t 8)),
    .op (some 26) none (.ixs 2 (.t 24) (.t 25)),
    .op (some 27) none (.load (some 2) (.t 26)),
    .op (some 28) none (.ixs 2 (.t 16) (.t 17)),
    .op none none (.store 2 (.t 28) (.t 23)),
    .op (some 29) none (.ixs 2 (.t 18) (.t 19)),
    .op none none (.store 2 (.t 29) (.t 27))]
def c94r4 : List AStm := []
def c94r5 : List AStm := [.op (some 30) none (.mv (.t 8)),
    .op (some 31) none (.bin .add (.t 30) (.c (.int .i64 1))),
    .op (some 8) none (.mv (.t 31))]
def c94r6 : List AStm := [.op (some 32) none (.mv (.t 9)),
    .op (some 33) none (.bin .sub (.t 32) (.c (.int .i64 1))),
    .op (some 9) none (.mv (.t 33))]
def c94l7 : AC := .seq (.seq (.reg c94r2) (.cond (.t 15) (.skip) (.exit 0))) (.block 1 (.seq (.dreg c94r3 c94r4) (.seq (.reg c94r5) (.reg c94r6))))
def c94 : CF := ⟨.seq (.reg c94r0) (.seq (.reg c94r1) (.block 0 (.loop c94l7))), [], 34⟩
theorem cf94 : cfun Try.prog 94 = some c94 := by kernel_rfl

/-! ### slices.partialInsertionSortCmpFunc[weighbridge/api.Span], params 4 -/
def c95r0 : List AStm := [.op (some 8) none (.mv (.c (.bool false)))]
def c95r1 : List AStm := [.op (some 13) none (.mv (.t 1)),
    .op (some 14) none (.bin .add (.t 13) (.c (.int .i64 1))),
    .op (some 9) none (.mv (.t 14))]
def c95r2 : List AStm := [.op (some 10) none (.mv (.c (.int .i64 0)))]
def c95r3 : List AStm := [.op (some 15) none (.mv (.t 10)),
    .op (some 16) none (.bin .lss (.t 15) (.c (.int .i64 5)))]
def c95r4 : List AStm := []
def c95r5 : List AStm := [.op (some 19) none (.mv (.t 9)),
    .op (some 20) none (.mv (.t 2)),
    .op (some 21) none (.bin .lss (.t 19) (.t 20)),
    .op (some 22) none (.mv (.t 21)),
    .op (some 23) (some (22, true)) (.mv (.t 3)),
    .op (some 24) (some (22, true)) (.mv (.t 0)),
    .op (some 25) (some (22, true)) (.mv (.t 9)),
    .op (some 26) (some (22, true)) (.ixs 2 (.t 24) (.t 25)),
    .op (some 27) (some (22, true)) (.load (some 2) (.t 26)),
    .op (some 28) (some (22, true)) (.mv (.t 0)),
    .op (some 29) (some (22, true)) (.mv (.t 9)),
    .op (some 30) (some (22, true)) (.bin .sub (.t 29) (.c (.int .i64 1))),
    .op (some 31) (some (22, true)) (.ixs 2 (.t 28) (.t 30)),
    .op (some 32) (some (22, true)) (.load (some 2) (.t 31)),
    .callG (some 33) (some (22, true)) (.t 23) [(.t 27), (.t 32)],
    .op (some 34) (some (22, true)) (.bin .lss (.t 33) (.c (.int .i64 0))),
    .op (some 35) (some (22, true)) (.un .not (.t 34)),
    .op (some 36) none (.pick (.t 22) (.t 35) (.c (.bool false)))]
def c95r6 : List AStm := [.op (some 37) none (.mv (.t 9)),
    .op (some 38) none (.bin .add (.t 37) (.c (.int .i64 1))),
    .op (some 9) none (.mv (.t 38))]
def c95l7 : AC := .seq (.seq (.dreg c95r4 c95r5) (.cond (.t 36) (.skip) (.exit 2))) (.block 3 (.reg c95r6))
def c95r8 : List AStm := [.op (some 39) none (.mv (.t 9)),
    .op (some 40) none (.mv (.t 2)),
    .op (some 41) none (.bin .eql (.t 39) (.t 40))]
def c95r9 : List AStm := [.op (some 8) none (.mv (.c (.bool true)))]
def c95r10 : List AStm := [.op (some 42) none (.mv (.t 2)),
    .op (some 43) none (.mv (.t 1)),
    .op (some 44) none (.bin .sub (.t 42) (.t 43)),
    .op (some 45) none (.bin .lss (.t 44) (.c (.int .i64 50)))]
def c95r11 : List AStm := [.op (some 8) none (.mv (.c (.bool false)))]
def c95r12 : List AStm := [.op (some 46) none (.mv (.t 0)),
    .op (some 47) none (.mv (.t 9)),
    .op (some 48) none (.mv (.t 0)),
    .op (some 49) none (.mv (.t 9)),
    .op (some 50) none (.bin .sub (.t 49) (.c (.int .i64 1))),
    .op (some 51) none (.mv (.t 0)),
    .op (some 52) none (.mv (.t 9)),
    .op (some 53) none (.bin .sub (.t 52) (.c (.int .i64 1))),
    .op (some 54) none (.ixs 2 (.t 51) (.t 53)),
    .op (some 55) none (.load (some 2) (.t 54)),
    .op (some 56) none (.mv (.t 0)),
    .op (some 57) none (.mv (.t 9)),
    .op (some 58) none (.ixs 2 (.t 56) (.t 57)),
    .op (some 59) none (.load (some 2) (.t 58)),
    .op (some 60) none (.ixs 2 (.t 46) (.t 47)),
    .op none none (.store 2 (.t 60) (.t 55)),
    .op (some 61) none (.ixs 2 (.t 48) (.t 50)),
    .op none none (.store 2 (.t 61) (.t 59))]
def c95r13 : List AStm := []
def c95r14 : List AStm := [.op (some 62) none (.mv (.t 9)),
    .op (some 63) none (.mv (.t 1)),
    .op (some 64) none (.bin .sub (.t 62) (.t 63)),
    .op (some 65) none (.bin .geq (.t 64) (.c (.int .i64 2)))]
def c95r15 : List AStm := [.op (some 66) none (.mv (.t 9)),
    .op (some 67) none (.bin .sub (.t 66) (.c (.int .i64 1))),
    .op (some 11) none (.mv (.t 67))]
def c95r16 : List AStm := [.op (some 68) none (.mv (.t 11)),
    .op (some 69) none (.bin .geq (.t 68) (.c (.int .i64 1)))]
def c95r17 : List AStm := []
def c95r18 : List AStm := [.op (some 72) none (.mv (.t 3)),
    .op (some 73) none (.mv (.t 0)),
    .op (some 74) none (.mv (.t 11)),
    .op (some 75) none (.ixs 2 (.t 73) (.t 74)),
    .op (some 76) none (.load (some 2) (.t 75)),
    .op (some 77) none (.mv (.t 0)),
    .op (some 78) none (.mv (.t 11)),
    .op (some 79) none (.bin .sub (.t 78) (.c (.int .i64 1))),
    .op (some 80) none (.ixs 2 (.t 77) (.t 79)),
    .op (some 81) none (.load (some 2) (.t 80)),
    .callG (some 82) none (.t 72) [(.t 76), (.t 81)],
    .op (some 83) none (.bin .lss (.t 82) (.c (.int .i64 0))),
    .op (some 84) none (.un .not (.t 83))]
def c95r19 : List AStm := [.op (some 85) none (.mv (.t 0)),
    .op (some 86) none (.mv (.t 11)),
    .op (some 87) none (.mv (.t 0)),
    .op (some 88) none (.mv (.t 11)),
    .op (some 89) none (.bin .sub (.t 88) (.c (.int .i64 1))),
    .op (some 90) none (.mv (.t 0)),
    .op (some 91) none (.mv (.t 11)),
    .op (some 92) none (.bin .sub (.t 91) (.c (.int .i64 1))),
    .op (some 93) none (.ixs 2 (.t 90) (.t 92)),
    .op (some 94) none (.load (some 2) (.t 93)),
    .op (some 95) none (.mv (.t 0)),
    .op (some 96) none (.mv (.t 11)),
    .op (some 97) none (.ixs 2 (.t 95) (.t 96)),
    .op (some 98) none (.load (some 2) (.t 97)),
    .op (some 99) none (.ixs 2 (.t 85) (.t 86)),
    .op none none (.store 2 (.t 99) (.t 94)),
    .op (some 100) none (.ixs 2 (.t 87) (.t 89)),
    .op none none (.store 2 (.t 100) (.t 98))]
def c95r20 : List AStm := []
def c95r21 : List AStm := [.op (some 70) none (.mv (.t 11)),
    .op (some 71) none (.bin .sub (.t 70) (.c (.int .i64 1))),
    .op (some 11) none (.mv (.t 71))]
def c95l22 : AC := .seq (.seq (.reg c95r16) (.cond (.t 69) (.skip) (.exit 4))) (.seq (.block 5 (.seq (.seq (.dreg c95r17 c95r18) (.cond (.t 84) (.exit 4) (.skip))) (.dreg c95r19 c95r20))) (.reg c95r21))
def c95r23 : List AStm := [.op (some 101) none (.mv (.t 2)),
    .op (some 102) none (.mv (.t 9)),
    .op (some 103) none (.bin .sub (.t 101) (.t 102)),
    .op (some 104) none (.bin .geq (.t 103) (.c (.int .i64 2)))]
def c95r24 : List AStm := [.op (some 105) none (.mv (.t 9)),
    .op (some 106) none (.bin .add (.t 105) (.c (.int .i64 1))),
    .op (some 12) none (.mv (.t 106))]
def c95r25 : List AStm := [.op (some 107) none (.mv (.t 12)),
    .op (some 108) none (.mv (.t 2)),
    .op (some 109) none (.bin .lss (.t 107) (.t 108))]
def c95r26 : List AStm := []
def c95r27 : List AStm := [.op (some 112) none (.mv (.t 3)),
    .op (some 113) none (.mv (.t 0)),
    .op (some 114) none (.mv (.t 12)),
    .op (some 115) none (.ixs 2 (.t 113) (.t 114)),
    .op (some 116) none (.load (some 2) (.t 115)),
    .op (some 117) none (.mv (.t 0)),
    .op (some 118) none (.mv (.t 12)),
    .op (some 119) none (.bin .sub (.t 118) (.c (.int .i64 1))),
    .op (some 120) none (.ixs 2 (.t 117) (.t 119)),
    .op (some 121) none (.load (some 2) (.t 120)),
    .callG (some 122) none (.t 112) [(.t 116), (.t 121)],
    .op (some 123) none (.bin .lss (.t 122) (.c (.int .i64 0))),
    .op (some 124) none (.un .not (.t 123))]
def c95r28 : List AStm := [.op (some 125) none (.mv (.t 0)),
    .op (some 126) none (.mv (.t 12)),
    .op (some 127) none (.mv (.t 0)),
    .op (some 128) none (.mv (.t 12)),
    .op (some 129) none (.bin .sub (.t 128) (.c (.int .i64 1))),
    .op (some 130) none (.mv (.t 0)),
    .op (some 131) none (.mv (.t 12)),
    .op (some 132) none (.bin .sub (.t 131) (.c (.int .i64 1))),
    .op (some 133) none (.ixs 2 (.t 130) (.t 132)),
    .op (some 134) none (.load (some 2) (.t 133)),
    .op (some 135) none (.mv (.t 0)),
    .op (some 136) none (.mv (.t 12)),
    .op (some 137) none (.ixs 2 (.t 135) (.t 136)),
    .op (some 138) none (.load (some 2) (.t 137)),
    .op (some 139) none (.ixs 2 (.t 125) (.t 126)),
    .op none none (.store 2 (.t 139) (.t 134)),
    .op (some 140) none (.ixs 2 (.t 127) (.t 129)),
    .op none none (.store 2 (.t 140) (.t 138))]
def c95r29 : List AStm := []
def c95r30 : List AStm := [.op (some 110) none (.mv (.t 12)),
    .op (some 111) none (.bin .add (.t 110) (.c (.int .i64 1))),
    .op (some 12) none (.mv (.t 111))]
def c95l31 : AC := .seq (.seq (.reg c95r25) (.cond (.t 109) (.skip) (.exit 6))) (.seq (.block 7 (.seq (.seq (.dreg c95r26 c95r27) (.cond (.t 124) (.exit 6) (.skip))) (.dreg c95r28 c95r29))) (.reg c95r30))
def c95r32 : List AStm := [.op (some 17) none (.mv (.t 10)),
    .op (some 18) none (.bin .add (.t 17) (.c (.int .i64 1))),
    .op (some 10) none (.mv (.t 18))]
def c95l33 : AC := .seq (.seq (.reg c95r3) (.cond (.t 16) (.skip) (.exit 0))) (.seq (.block 1 (.seq (.block 2 (.loop c95l7)) (.seq (.seq (.reg c95r8) (.cond (.t 41) (.seq (.reg c95r9) (.ret)) (.skip))) (.seq (.seq (.reg c95r10) (.cond (.t 45) (.seq (.reg c95r11) (.ret)) (.skip))) (.seq (.dreg c95r12 c95r13) (.seq (.seq (.reg c95r14) (.cond (.t 65) (.seq (.reg c95r15) (.block 4 (.loop c95l22))) (.skip))) (.seq (.reg c95r23) (.cond (.t 104) (.seq (.reg c95r24) (.block 6 (.loop c95l31))) (.skip))))))))) (.reg c95r32))
def c95r34 : List AStm := [.op (some 8) none (.mv (.c (.bool false)))]
def c95 : CF := ⟨.seq (.reg c95r0) (.seq (.reg c95r1) (.seq (.seq (.reg c95r2) (.block 0 (.loop c95l33))) (.seq (.reg c95r34) (.ret)))), [.tmp 8], 141⟩
theorem cf95 : cfun Try.prog 95 = some c95 := by kernel_rfl

/-! ### slices.partitionEqualCmpFunc[weighbridge/api.Span], params 5 -/
def c96r0 : List AStm := [.op (some 10) none (.mv (.c (.int .i64 0)))]
def c96r1 : List AStm := [.op (some 13) none (.mv (.t 0)),
    .op (some 14) none (.mv (.t 1)),
    .op (some 15) none (.mv (.t 0)),
    .op (some 16) none (.mv (.t 3)),
    .op (some 17) none (.mv (.t 0)),
    .op (some 18) none (.mv (.t 3)),
    .op (some 19) none (.ixs 2 (.t 17) (.t 18)),
    .op (some 20) none (.load (some 2) (.t 19)),
    .op (some 21) none (.mv (.t 0)),
    .op (some 22) none (.mv (.t 1)),
    .op (some 23) none (.ixs 2 (.t 21) (.t 22)),
    .op (some 24) none (.load (some 2) (.t 23)),
    .op (some 25) none (.ixs 2 (.t 13) (.t 14)),
    .op none none (.store 2 (.t 25) (.t 20)),
    .op (some 26) none (.ixs 2 (.t 15) (.t 16)),
    .op none none (.store 2 (.t 26) (.t 24))]
def c96r2 : List AStm := []
def c96r3 : List AStm := [.op (some 27) none (.mv (.t 1)),
    .op (some 28) none (.bin .add (.t 27) (.c (.int .i64 1))),
    .op (some 29) none (.mv (.t 2)),
    .op (some 30) none (.bin .sub (.t 29) (.c (.int .i64 1))),
    .op (some 11) none (.mv (.t 28)),
    .op (some 12) none (.mv (.t 30))]
def c96r4 : List AStm := []
def c96r5 : List AStm := [.op (some 31) none (.mv (.t 11)),
    .op (some 32) none (.mv (.t 12)),
    .op (some 33) none (.bin .leq (.t 31) (.t 32)),
    .op (some 34) none (.mv (.t 33)),
    .op (some 35) (some (34, true)) (.mv (.t 4)),
    .op (some 36) (some (34, true)) (.mv (.t 0)),
    .op (some 37) (some (34, true)) (.mv (.t 1)),
    .op (some 38) (some (34, true)) (.ixs 2 (.t 36) (.t 37)),
    .op (some 39) (some (34, true)) (.load (some 2) (.t 38)),
    .op (some 40) (some (34, true)) (.mv (.t 0)),
    .op (some 41) (some (34, true)) (.mv (.t 11)),
    .op (some 42) (some (34, true)) (.ixs 2 (.t 40) (.t 41)),
    .op (some 43) (some (34, true)) (.load (some 2) (.t 42)),
    .callG (some 44) (some (34, true)) (.t 35) [(.t 39), (.t 43)],
    .op (some 45) (some (34, true)) (.bin .lss (.t 44) (.c (.int .i64 0))),
    .op (some 46) (some (34, true)) (.un .not (.t 45)),
    .op (some 47) none (.pick (.t 34) (.t 46) (.c (.bool false)))]
def c96r6 : List AStm := [.op (some 48) none (.mv (.t 11)),
    .op (some 49) none (.bin .add (.t 48) (.c (.int .i64 1))),
    .op (some 11) none (.mv (.t 49))]
def c96l7 : AC := .seq (.seq (.dreg c96r4 c96r5) (.cond (.t 47) (.skip) (.exit 2))) (.block 3 (.reg c96r6))
def c96r8 : List AStm := []
def c96r9 : List AStm := [.op (some 50) none (.mv (.t 11)),
    .op (some 51) none (.mv (.t 12)),
    .op (some 52) none (.bin .leq (.t 50) (.t 51)),
    .op (some 53) none (.mv (.t 52)),
    .op (some 54) (some (53, true)) (.mv (.t 4)),
    .op (some 55) (some (53, true)) (.mv (.t 0)),
    .op (some 56) (some (53, true)) (.mv (.t 1)),
    .op (some 57) (some (53, true)) (.ixs 2 (.t 55) (.t 56)),
    .op (some 58) (some (53, true)) (.load (some 2) (.t 57)),
    .op (some 59) (some (53, true)) (.mv (.t 0)),
    .op (some 60) (some (53, true)) (.mv (.t 12)),
    .op (some 61) (some (53, true)) (.ixs 2 (.t 59) (.t 60)),
    .op (some 62) (some (53, true)) (.load (some 2) (.t 61)),
    .callG (some 63) (some (53, true)) (.t 54) [(.t 58), (.t 62)],
    .op (some 64) (some (53, true)) (.bin .lss (.t 63) (.c (.int .i64 0))),
    .op (some 65) none (.pick (.t 53) (.t 64) (.c (.bool false)))]
def c96r10 : List AStm := [.op (some 66) none (.mv (.t 12)),
    .op (some 67) none (.bin .sub (.t 66) (.c (.int .i64 1))),
    .op (some 12) none (.mv (.t 67))]
def c96l11 : AC := .seq (.seq (.dreg c96r8 c96r9) (.cond (.t 65) (.skip) (.exit 4))) (.block 5 (.reg c96r10))
def c96r12 : List AStm := [.op (some 68) none (.mv (.t 11)),
    .op (some 69) none (.mv (.t 12)),
    .op (some 70) none (.bin .gtr (.t 68) (.t 69))]
def c96r13 : List AStm := [.op (some 71) none (.mv (.t 0)),
    .op (some 72) none (.mv (.t 11)),
    .op (some 73) none (.mv (.t 0)),
    .op (some 74) none (.mv (.t 12)),
    .op (some 75) none (.mv (.t 0)),
    .op (some 76) none (.mv (.t 12)),
    .op (some 77) none (.ixs 2 (.t 75) (.t 76)),
    .op (some 78) none (.load (some 2) (.t 77)),
    .op (some 79) none (.mv (.t 0)),
    .op (some 80) none (.mv (.t 11)),
    .op (some 81) none (.ixs 2 (.t 79) (.t 80)),
    .op (some 82) none (.load (some 2) (.t 81)),
    .op (some 83) none (.ixs 2 (.t 71) (.t 72)),
    .op none none (.store 2 (.t 83) (.t 78)),
    .op (some 84) none (.ixs 2 (.t 73) (.t 74)),
    .op none none (.store 2 (.t 84) (.t 82))]
def c96r14 : List AStm := []
def c96r15 : List AStm := [.op (some 85) none (.mv (.t 11)),
    .op (some 86) none (.bin .add (.t 85) (.c (.int .i64 1))),
    .op (some 11) none (.mv (.t 86))]
def c96r16 : List AStm := [.op (some 87) none (.mv (.t 12)),
    .op (some 88) none (.bin .sub (.t 87) (.c (.int .i64 1))),
    .op (some 12) none (.mv (.t 88))]
def c96l17 : AC := .block 1 (.seq (.block 2 (.loop c96l7)) (.seq (.block 4 (.loop c96l11)) (.seq (.seq (.reg c96r12) (.cond (.t 70) (.exit 0) (.skip))) (.seq (.dreg c96r13 c96r14) (.seq (.reg c96r15) (.reg c96r16))))))
def c96r18 : List AStm := [.op (some 89) none (.mv (.t 11)),
    .op (some 10) none (.mv (.t 89))]
def c96 : CF := ⟨.seq (.reg c96r0) (.seq (.dreg c96r1 c96r2) (.seq (.reg c96r3) (.seq (.block 0 (.loop c96l17)) (.seq (.reg c96r18) (.ret))))), [.tmp 10], 90⟩
theorem cf96 : cfun Try.prog 96 = some c96 := by kernel_rfl

/-! ### slices.partitionCmpFunc[weighbridge/api.Span], params 5 -/
def c97r0 : List AStm := [.op (some 10) none (.mv (.c (.int .i64 0))),
    .op (some 11) none (.mv (.c (.bool false)))]
def c97r1 : List AStm := [.op (some 14) none (.mv (.t 0)),
    .op (some 15) none (.mv (.t 1)),
    .op (some 16) none (.mv (.t 0)),
    .op (some 17) none (.mv (.t 3)),
    .op (some 18) none (.mv (.t 0)),
    .op (some 19) none (.mv (.t 3)),
    .op (some 20) none (.ixs 2 (.t 18) (.t 19)),
    .op (some 21) none (.load (some 2) (.t 20)),
    .op (some 22) none (.mv (.t 0)),
    .op (some 23) none (.mv (.t 1)),
    .op (some 24) none (.ixs 2 (.t 22) (.t 23)),
    .op (some 25) none (.load (some 2) (.t 24)),
    .op (some 26) none (.ixs 2 (.t 14) (.t 15)),
    .op none none (.store 2 (.t 26) (.t 21)),
    .op (some 27) none (.ixs 2 (.t 16) (.t 17)),
    .op none none (.store 2 (.t 27) (.t 25))]
def c97r2 : List AStm := []
def c97r3 : List AStm := [.op (some 28) none (.mv (.t 1)),
    .op (some 29) none (.bin .add (.t 28) (.c (.int .i64 1))),
    .op (some 30) none (.mv (.t 2)),
    .op (some 31) none (.bin .sub (.t 30) (.c (.int .i64 1))),
    .op (some 12) none (.mv (.t 29)),
    .op (some 13) none (.mv (.t 31))]
def c97r4 : List AStm := []
def c97r5 : List AStm := [.op (some 32) none (.mv (.t 12)),
    .op (some 33) none (.mv (.t 13)),
    .op (some 34) none (.bin .leq (.t 32) (.t 33)),
    .op (some 35) none (.mv (.t 34)),
    .op (some 36) (some (35, true)) (.mv (.t 4)),
    .op (some 37) (some (35, true)) (.mv (.t 0)),
    .op (some 38) (some (35, true)) (.mv (.t 12)),
    .op (some 39) (some (35, true)) (.ixs 2 (.t 37) (.t 38)),
    .op (some 40) (some (35, true)) (.load (some 2) (.t 39)),
    .op (some 41) (some (35, true)) (.mv (.t 0)),
    .op (some 42) (some (35, true)) (.mv (.t 1)),
    .op (some 43) (some (35, true)) (.ixs 2 (.t 41) (.t 42)),
    .op (some 44) (some (35, true)) (.load (some 2) (.t 43)),
    .callG (some 45) (some (35, true)) (.t 36) [(.t 40), (.t 44)],
    .op (some 46) (some (35, true)) (.bin .lss (.t 45) (.c (.int .i64 0))),
    .op (some 47) none (.pick (.t 35) (.t 46) (.c (.bool false)))]
def c97r6 : List AStm := [.op (some 48) none (.mv (.t 12)),
    .op (some 49) none (.bin .add (.t 48) (.c (.int .i64 1))),
    .op (some 12) none (.mv (.t 49))]
def c97l7 : AC := .seq (.seq (.dreg c97r4 c97r5) (.cond (.t 47) (.skip) (.exit 0))) (.block 1 (.reg c97r6))
def c97r8 : List AStm := []
def c97r9 : List AStm := [.op (some 50) none (.mv (.t 12)),
    .op (some 51) none (.mv (.t 13)),
    .op (some 52) none (.bin .leq (.t 50) (.t 51)),
    .op (some 53) none (.mv (.t 52)),
    .op (some 54) (some (53, true)) (.mv (.t 4)),
    .op (some 55) (some (53, true)) (.mv (.t 0)),
    .op (some 56) (some (53, true)) (.mv (.t 13)),
    .op (some 57) (some (53, true)) (.ixs 2 (.t 55) (.t 56)),
    .op (some 58) (some (53, true)) (.load (some 2) (.t 57)),
    .op (some 59) (some (53, true)) (.mv (.t 0)),
    .op (some 60) (some (53, true)) (.mv (.t 1)),
    .op (some 61) (some (53, true)) (.ixs 2 (.t 59) (.t 60)),
    .op (some 62) (some (53, true)) (.load (some 2) (.t 61)),
    .callG (some 63) (some (53, true)) (.t 54) [(.t 58), (.t 62)],
    .op (some 64) (some (53, true)) (.bin .lss (.t 63) (.c (.int .i64 0))),
    .op (some 65) (some (53, true)) (.un .not (.t 64)),
    .op (some 66) none (.pick (.t 53) (.t 65) (.c (.bool false)))]
def c97r10 : List AStm := [.op (some 67) none (.mv (.t 13)),
    .op (some 68) none (.bin .sub (.t 67) (.c (.int .i64 1))),
    .op (some 13) none (.mv (.t 68))]
def c97l11 : AC := .seq (.seq (.dreg c97r8 c97r9) (.cond (.t 66) (.skip) (.exit 2))) (.block 3 (.reg c97r10))
def c97r12 : List AStm := [.op (some 69) none (.mv (.t 12)),
    .op (some 70) none (.mv (.t 13)),
    .op (some 71) none (.bin .gtr (.t 69) (.t 70))]
def c97r13 : List AStm := [.op (some 72) none (.mv (.t 0)),
    .op (some 73) none (.mv (.t 13)),
    .op (some 74) none (.mv (.t 0)),
    .op (some 75) none (.mv (.t 1)),
    .op (some 76) none (.mv (.t 0)),
    .op (some 77) none (.mv (.t 1)),
    .op (some 78) none (.ixs 2 (.t 76) (.t 77)),
    .op (some 79) none (.load (some 2) (.t 78)),
    .op (some 80) none (.mv (.t 0)),
    .op (some 81) none (.mv (.t 13)),
    .op (some 82) none (.ixs 2 (.t 80) (.t 81)),
    .op (some 83) none (.load (some 2) (.t 82)),
    .op (some 84) none (.ixs 2 (.t 72) (.t 73)),
    .op none none (.store 2 (.t 84) (.t 79)),
    .op (some 85) none (.ixs 2 (.t 74) (.t 75)),
    .op none none (.store 2 (.t 85) (.t 83))]
def c97r14 : List AStm := []
def c97r15 : List AStm := [.op (some 86) none (.mv (.t 13)),
    .op (some 10) none (.mv (.t 86)),
    .op (some 11) none (.mv (.c (.bool true)))]
def c97r16 : List AStm := [.op (some 87) none (.mv (.t 0)),
    .op (some 88) none (.mv (.t 12)),
    .op (some 89) none (.mv (.t 0)),
    .op (some 90) none (.mv (.t 13)),
    .op (some 91) none (.mv (.t 0)),
    .op (some 92) none (.mv (.t 13)),
    .op (some 93) none (.ixs 2 (.t 91) (.t 92)),
    .op (some 94) none (.load (some 2) (.t 93)),
    .op (some 95) none (.mv (.t 0)),
    .op (some 96) none (.mv (.t 12)),
    .op (some 97) none (.ixs 2 (.t 95) (.t 96)),
    .op (some 98) none (.load (some 2) (.t 97)),
    .op (some 99) none (.ixs 2 (.t 87) (.t 88)),
    .op none none (.store 2 (.t 99) (.t 94)),
    .op (some 100) none (.ixs 2 (.t 89) (.t 90)),
    .op none none (.store 2 (.t 100) (.t 98))]
def c97r17 : List AStm := []
def c97r18 : List AStm := [.op (some 101) none (.mv (.t 12)),
    .op (some 102) none (.bin .add (.t 101) (.c (.int .i64 1))),
    .op (some 12) none (.mv (.t 102))]
def c97r19 : List AStm := [.op (some 103) none (.mv (.t 13)),
    .op (some 104) none (.bin .sub (.t 103) (.c (.int .i64 1))),
    .op (some 13) none (.mv (.t 104))]
def c97r20 : List AStm := []
def c97r21 : List AStm := [.op (some 105) none (.mv (.t 12)),
    .op (some 106) none (.mv (.t 13)),
    .op (some 107) none (.bin .leq (.t 105) (.t 106)),
    .op (some 108) none (.mv (.t 107)),
    .op (some 109) (some (108, true)) (.mv (.t 4)),
    .op (some 110) (some (108, true)) (.mv (.t 0)),
    .op (some 111) (some (108, true)) (.mv (.t 12)),
    .op (some 112) (some (108, true)) (.ixs 2 (.t 110) (.t 111)),
    .op (some 113) (some (108, true)) (.load (some 2) (.t 112)),
    .op (some 114) (some (108, true)) (.mv (.t 0)),
    .op (some 115) (some (108, true)) (.mv (.t 1)),
    .op (some 116) (some (108, true)) (.ixs 2 (.t 114) (.t 115)),
    .op (some 117) (some (108, true)) (.load (some 2) (.t 116)),
    .callG (some 118) (some (108, true)) (.t 109) [(.t 113), (.t 117)],
    .op (some 119) (some (108, true)) (.bin .lss (.t 118) (.c (.int .i64 0))),
    .op (some 120) none (.pick (.t 108) (.t 119) (.c (.bool false)))]
def c97r22 : List AStm := [.op (some 121) none (.mv (.t 12)),
    .op (some 122) none (.bin .add (.t 121) (.c (.int .i64 1))),
    .op (some 12) none (.mv (.t 122))]
def c97l23 : AC := .seq (.seq (.dreg c97r20 c97r21) (.cond (.t 120) (.skip) (.exit 6))) (.block 7 (.reg c97r22))
def c97r24 : List AStm := []
def c97r25 : List AStm := [.op (some 123) none (.mv (.t 12)),
    .op (some 124) none (.mv (.t 13)),
    .op (some 125) none (.bin .leq (.t 123) (.t 124)),
    .op (some 126) none (.mv (.t 125)),
    .op (some 127) (some (126, true)) (.mv (.t 4)),
    .op (some 128) (some (126, true)) (.mv (.t 0)),
    .op (some 129) (some (126, true)) (.mv (.t 13)),
    .op (some 130) (some (126, true)) (.ixs 2 (.t 128) (.t 129)),
    .op (some 131) (some (126, true)) (.load (some 2) (.t 130)),
    .op (some 132) (some (126, true)) (.mv (.t 0)),
    .op (some 133) (some (126, true)) (.mv (.t 1)),
    .op (some 134) (some (126, true)) (.ixs 2 (.t 132) (.t 133)),
    .op (some 135) (some (126, true)) (.load (some 2) (.t 134)),
    .callG (some 136) (some (126, true)) (.t 127) [(.t 131), (.t 135)],
    .op (some 137) (some (126, true)) (.bin .lss (.t 136) (.c (.int .i64 0))),
    .op (some 138) (some (126, true)) (.un .not (.t 137)),
    .op (some 139) none (.pick (.t 126) (.t 138) (.c (.bool false)))]
def c97r26 : List AStm := [.op (some 140) none (.mv (.t 13)),
    .op (some 141) none (.bin .sub (.t 140) (.c (.int .i64 1))),
    .op (some 13) none (.mv (.t 141))]
def c97l27 : AC := .seq (.seq (.dreg c97r24 c97r25) (.cond (.t 139) (.skip) (.exit 8))) (.block 9 (.reg c97r26))
def c97r28 : List AStm := [.op (some 142) none (.mv (.t 12)),
    .op (some 143) none (.mv (.t 13)),
    .op (some 144) none (.bin .gtr (.t 142) (.t 143))]
def c97r29 : List AStm := [.op (some 145) none (.mv (.t 0)),
    .op (some 146) none (.mv (.t 12)),
    .op (some 147) none (.mv (.t 0)),
    .op (some 148) none (.mv (.t 13)),
    .op (some 149) none (.mv (.t 0)),
    .op (some 150) none (.mv (.t 13)),
    .op (some 151) none (.ixs 2 (.t 149) (.t 150)),
    .op (some 152) none (.load (some 2) (.t 151)),
    .op (some 153) none (.mv (.t 0)),
    .op (some 154) none (.mv (.t 12)),
    .op (some 155) none (.ixs 2 (.t 153) (.t 154)),
    .op (some 156) none (.load (some 2) (.t 155)),
    .op (some 157) none (.ixs 2 (.t 145) (.t 146)),
    .op none none (.store 2 (.t 157) (.t 152)),
    .op (some 158) none (.ixs 2 (.t 147) (.t 148)),
    .op none none (.store 2 (.t 158) (.t 156))]
def c97r30 : List AStm := []
def c97r31 : List AStm := [.op (some 159) none (.mv (.t 12)),
    .op (some 160) none (.bin .add (.t 159) (.c (.int .i64 1))),
    .op (some 12) none (.mv (.t 160))]
def c97r32 : List AStm := [.op (some 161) none (.mv (.t 13)),
    .op (some 162) none (.bin .sub (.t 161) (.c (.int .i64 1))),
    .op (some 13) none (.mv (.t 162))]
def c97l33 : AC := .block 5 (.seq (.block 6 (.loop c97l23)) (.seq (.block 8 (.loop c97l27)) (.seq (.seq (.reg c97r28) (.cond (.t 144) (.exit 4) (.skip))) (.seq (.dreg c97r29 c97r30) (.seq (.reg c97r31) (.reg c97r32))))))
def c97r34 : List AStm := [.op (some 163) none (.mv (.t 0)),
    .op (some 164) none (.mv (.t 13)),
    .op (some 165) none (.mv (.t 0)),
    .op (some 166) none (.mv (.t 1)),
    .op (some 167) none (.mv (.t 0)),
    .op (some 168) none (.mv (.t 1)),
    .op (some 169) none (.ixs 2 (.t 167) (.t 168)),
    .op (some 170) none (.load (some 2) (.t 169)),
    .op (some 171) none (.mv (.t 0)),
    .op (some 172) none (.mv (.t 13)),
    .op (some 173) none (.ixs 2 (.t 171) (.t 172)),
    .op (some 174) none (.load (some 2) (.t 173)),
    .op (some 175) none (.ixs 2 (.t 163) (.t 164)),
    .op none none (.store 2 (.t 175) (.t 170)),
    .op (some 176) none (.ixs 2 (.t 165) (.t 166)),
    .op none none (.store 2 (.t 176) (.t 174))]
def c97r35 : List AStm := []
def c97r36 : List AStm := [.op (some 177) none (.mv (.t 13)),
    .op (some 10) none (.mv (.t 177)),
    .op (some 11) none (.mv (.c (.bool false)))]
def c97 : CF := ⟨.seq (.reg c97r0) (.seq (.dreg c97r1 c97r2) (.seq (.reg c97r3) (.seq (.block 0 (.loop c97l7)) (.seq (.block 2 (.loop c97l11)) (.seq (.seq (.reg c97r12) (.cond (.t 71) (.seq (.dreg c97r13 c97r14) (.seq (.reg c97r15) (.ret))) (.skip))) (.seq (.dreg c97r16 c97r17) (.seq (.reg c97r18) (.seq (.reg c97r19) (.seq (.block 4 (.loop c97l33)) (.seq (.dreg c97r34 c97r35) (.seq (.reg c97r36) (.ret)))))))))))), [.tmp 10, .tmp 11], 178⟩
theorem cf97 : cfun Try.prog 97 = some c97 := by kernel_rfl

/-! ### math/bits.Len32, params 1 -/
def c98r0 : List AStm := [.op (some 2) none (.mv (.c (.int .i64 0)))]
def c98r1 : List AStm := [.op (some 3) none (.mv (.t 0)),
    .op (some 4) none (.bin .geq (.t 3) (.c (.int .u32 65536)))]
def c98r2 : List AStm := [.op (some 5) none (.mv (.t 0)),
    .op (some 6) none (.bin .shr (.t 5) (.c (.int .u64 16))),
    .op (some 0) none (.mv (.t 6))]
def c98r3 : List AStm := [.op (some 2) none (.mv (.c (.int .i64 16)))]
def c98r4 : List AStm := [.op (some 7) none (.mv (.t 0)),
    .op (some 8) none (.bin .geq (.t 7) (.c (.int .u32 256)))]
def c98r5 : List AStm := [.op (some 9) none (.mv (.t 0)),
    .op (some 10) none (.bin .shr (.t 9) (.c (.int .u64 8))),
    .op (some 0) none (.mv (.t 10))]
def c98r6 : List AStm := [.op (some 11) none (.mv (.t 2)),
    .op (some 12) none (.bin .add (.t 11) (.c (.int .i64 8))),
    .op (some 2) none (.mv (.t 12))]
def c98r7 : List AStm := [.op (some 13) none (.mv (.t 2)),
    .op (some 14) none (.mv (.t 0)),
    .op (some 15) none (.conv .u8 (.t 14)),
    .op (some 16) none (.ixstr (.c (.str (bs [0, 1, 2, 2, 3, 3, 3, 3, 4, 4, 4, 4, 4, 4, 4, 4, 5, 5, 5, 5, 5, 5, 5, 5, 5, 5, 5, 5, 5, 5, 5, 5, 6, 6, 6, 6, 6, 6, 6, 6, 6, 6, 6, 6, 6, 6, 6, 6, 6, 6, 6, 6, 6, 6, 6, 6, 6, 6, 6, 6, 6, 6, 6, 6, 7, 7, 7, 7, 7, 7, 7, 7, 7, 7, 7, 7, 7, 7, 7, 7, 7, 7, 7, 7, 7, 7, 7, 7, 7, 7, 7, 7, 7, 7, 7, 7, 7, 7, 7, 7, 7, 7, 7, 7, 7, 7, 7, 7, 7, 7, 7, 7, 7, 7, 7, 7, 7, 7, 7, 7, 7, 7, 7, 7, 7, 7, 7, 7, 8, 8, 8, 8, 8, 8, 8, 8, 8, 8, 8, 8, 8, 8, 8, 8, 8, 8, 8, 8, 8, 8, 8, 8, 8, 8, 8, 8, 8, 8, 8, 8, 8, 8, 8, 8, 8, 8, 8, 8, 8, 8, 8, 8, 8, 8, 8, 8, 8, 8, 8, 8, 8, 8, 8, 8, 8, 8, 8, 8, 8, 8, 8, 8, 8, 8, 8, 8, 8, 8, 8, 8, 8, 8, 8, 8, 8, 8, 8, 8, 8, 8, 8, 8, 8, 8, 8, 8, 8, 8, 8, 8, 8, 8, 8, 8, 8, 8, 8, 8, 8, 8, 8, 8, 8, 8, 8, 8, 8, 8, 8, 8, 8, 8, 8, 8, 8, 8, 8, 8, 8, 8, 8, 8, 8, 8, 8, 8]))) (.t 15)),
    .op (some 17) none (.conv .i64 (.t 16)),
    .op (some 18) none (.bin .add (.t 13) (.t 17)),
    .op (some 2) none (.mv (.t 18))]
def c98 : CF := ⟨.seq (.reg c98r0) (.seq (.seq (.reg c98r1) (.cond (.t 4) (.seq (.reg c98r2) (.reg c98r3)) (.skip))) (.seq (.seq (.reg c98r4) (.cond (.t 8) (.seq (.reg c98r5) (.reg c98r6)) (.skip))) (.seq (.reg c98r7) (.ret)))), [.tmp 2], 19⟩
theorem cf98 : cfun Try.prog 98 = some c98 := by kernel_rfl

/-! ### math/bits.Len64, params 1 -/
def c99r0 : List AStm := [.op (some 2) none (.mv (.c (.int .i64 0)))]
def c99r1 : List AStm := [.op (some 3) none (.mv (.t 0)),
    .op (some 4) none (.bin .geq (.t 3) (.c (.int .u64 4294967296)))]
def c99r2 : List AStm := [.op (some 5) none (.mv (.t 0)),
    .op (some 6) none (.bin .shr (.t 5) (.c (.int .u64 32))),
    .op (some 0) none (.mv (.t 6))]
def c99r3 : List AStm := [.op (some 2) none (.mv (.c (.int .i64 32)))]
def c99r4 : List AStm := [.op (some 7) none (.mv (.t 0)),
    .op (some 8) none (.bin .geq (.t 7) (.c (.int .u64 65536)))]
def c99r5 : List AStm := [.op (some 9) none (.mv (.t 0)),
    .op (some 10) none (.bin .shr (.t 9) (.c (.int .u64 16))),
    .op (some 0) none (.mv (.t 10))]
def c99r6 : List AStm := [.op (some 11) none (.mv (.t 2)),
    .op (some 12) none (.bin .add (.t 11) (.c (.int .i64 16))),
    .op (some 2) none (.mv (.t 12))]
def c99r7 : List AStm := [.op (some 13) none (.mv (.t 0)),
    .op (some 14) none (.bin .geq (.t 13) (.c (.int .u64 256)))]
def c99r8 : List AStm := [.op (some 15) none (.mv (.t 0)),
    .op (some 16) none (.bin .shr (.t 15) (.c (.int .u64 8))),
    .op (some 0) none (.mv (.t 16))]
def c99r9 : List AStm := [.op (some 17) none (.mv (.t 2)),
    .op (some 18) none (.bin .add (.t 17) (.c (.int .i64 8))),
    .op (some 2) none (.mv (.t 18))]
def c99r10 : List AStm := [.op (some 19) none (.mv (.t 2)),
    .op (some 20) none (.mv (.t 0)),
    .op (some 21) none (.conv .u8 (.t 20)),
    .op (some 22) none (.ixstr (.c (.str (bs [0, 1, 2, 2, 3, 3, 3, 3, 4, 4, 4, 4, 4, 4, 4, 4, 5, 5, 5, 5, 5, 5, 5, 5, 5, 5, 5, 5, 5, 5, 5, 5, 6, 6, 6, 6, 6, 6, 6, 6, 6, 6, 6, 6, 6, 6, 6, 6, 6, 6, 6, 6, 6, 6, 6, 6, 6, 6, 6, 6, 6, 6, 6, 6, 7, 7, 7, 7, 7, 7, 7, 7, 7, 7, 7, 7, 7, 7, 7, 7, 7, 7, 7, 7, 7, 7, 7, 7, 7, 7, 7, 7, 7, 7, 7, 7, 7, 7, 7, 7, 7, 7, 7, 7, 7, 7, 7, 7, 7, 7, 7, 7, 7, 7, 7, 7, 7, 7, 7, 7, 7, 7, 7, 7, 7, 7, 7, 7, 8, 8, 8, 8, 8, 8, 8, 8, 8, 8, 8, 8, 8, 8, 8, 8, 8, 8, 8, 8, 8, 8, 8, 8, 8, 8, 8, 8, 8, 8, 8, 8, 8, 8, 8, 8, 8, 8, 8, 8, 8, 8, 8, 8, 8, 8, 8, 8, 8, 8, 8, 8, 8, 8, 8, 8, 8, 8, 8, 8, 8, 8, 8, 8, 8, 8, 8, 8, 8, 8, 8, 8, 8, 8, 8, 8, 8, 8, 8, 8, 8, 8, 8, 8, 8, 8, 8, 8, 8, 8, 8, 8, 8, 8, 8, 8, 8, 8, 8, 8, 8, 8, 8, 8, 8, 8, 8, 8, 8, 8, 8, 8, 8, 8, 8, 8, 8, 8, 8, 8, 8, 8, 8, 8, 8, 8, 8, 8]))) (.t 21)),
    .op (some 23) none (.conv .i64 (.t 22)),
    .op (some 24) none (.bin .add (.t 19) (.t 23)),
    .op (some 2) none (.mv (.t 24))]
def c99 : CF := ⟨.seq (.reg c99r0) (.seq (.seq (.reg c99r1) (.cond (.t 4) (.seq (.reg c99r2) (.reg c99r3)) (.skip))) (.seq (.seq (.reg c99r4) (.cond (.t 8) (.seq (.reg c99r5) (.reg c99r6)) (.skip))) (.seq (.seq (.reg c99r7) (.cond (.t 14) (.seq (.reg c99r8) (.reg c99r9)) (.skip))) (.seq (.reg c99r10) (.ret))))), [.tmp 2], 25⟩
theorem cf99 : cfun Try.prog 99 = some c99 := by kernel_rfl

/-! ### slices.insertionSortOrdered[int], params 3 -/
def c100r0 : List AStm := [.op (some 8) none (.mv (.t 1)),
    .op (some 9) none (.bin .add (.t 8) (.c (.int .i64 1))),
    .op (some 6) none (.mv (.t 9))]
def c100r1 : List AStm := [.op (some 10) none (.mv (.t 6)),
    .op (some 11) none (.mv (.t 2)),
    .op (some 12) none (.bin .lss (.t 10) (.t 11))]
def c100r2 : List AStm := [.op (some 15) none (.mv (.t 6)),
    .op (some 7) none (.mv (.t 15))]
def c100r3 : List AStm := []
def c100r4 : List AStm := [.op (some 16) none (.mv (.t 7)),
    .op (some 17) none (.mv (.t 1)),
    .op (some 18) none (.bin .gtr (.t 16) (.t 17)),
    .op (some 19) none (.mv (.t 18)),
    .op (some 20) (some (19, true)) (.mv (.t 0)),
    .op (some 21) (some (19, true)) (.mv (.t 7)),
    .op (some 22) (some (19, true)) (.ixs 1 (.t 20) (.t 21)),
    .op (some 23) (some (19, true)) (.load none (.t 22)),
    .op (some 24) (some (19, true)) (.mv (.t 0)),
    .op (some 25) (some (19, true)) (.mv (.t 7)),
    .op (some 26) (some (19, true)) (.bin .sub (.t 25) (.c (.int .i64 1))),
    .op (some 27) (some (19, true)) (.ixs 1 (.t 24) (.t 26)),
    .op (some 28) (some (19, true)) (.load none (.t 27)),
    .callG (some 29) (some (19, true)) (.c (.fn (.func 106) [] [])) [(.t 23), (.t 28)],
    .op (some 30) none (.pick (.t 19) (.t 29) (.c (.bool false)))]
def c100r5 : List AStm := [.op (some 33) none (.mv (.t 0)),
    .op (some 34) none (.mv (.t 7)),
    .op (some 35) none (.mv (.t 0)),
    .op (some 36) none (.mv (.t 7)),
    .op (some 37) none (.bin .sub (.t 36) (.c (.int .i64 1))),
    .op (some 38) none (.mv (.t 0)),
    .op (some 39) none (.mv (.t 7)),
    .op (some 40) none (.bin .sub (.t 39) (.c (.int .i64 1))),
    .op (some 41) none (.ixs 1 (.t 38) (.t 40)),
    .op (some 42) none (.load none (.t 41)),
    .op (some 43) none (.mv (.t 0)),
    .op (some 44) none (.mv (.t 7)),
    .op (some 45) none (.ixs 1 (.t 43) (.t 44)),
    .op (some 46) none (.load none (.t 45)),
    .op (some 47) none (.ixs 1 (.t 33) (.t 34)),
    .op none none (.store 1 (.t 47) (.t 42)),
    .op (some 48) none (.ixs 1 (.t 35) (.t 37)),
    .op none none (.store 1 (.t 48) (.t 46))]
def c100r6 : List AStm := []
def c100r7 : List AStm := [.op (some 31) none (.mv (.t 7)),
    .op (some 32) none (.bin .sub (.t 31) (.c (.int .i64 1))),
    .op (some 7) none (.mv (.t 32))]
def c100l8 : AC := .seq (.seq (.dreg c100r3 c100r4) (.cond (.t 30) (.skip) (.exit 2))) (.seq (.block 3 (.dreg c100r5 c100r6)) (.reg c100r7))
def c100r9 : List AStm := [.op (some 13) none (.mv (.t 6)),
    .op (some 14) none (.bin .add (.t 13) (.c (.int .i64 1))),
    .op (some 6) none (.mv (.t 14))]
def c100l10 : AC := .seq (.seq (.reg c100r1) (.cond (.t 12) (.skip) (.exit 0))) (.seq (.block 1 (.seq (.reg c100r2) (.block 2 (.loop c100l8)))) (.reg c100r9))
def c100 : CF := ⟨.seq (.reg c100r0) (.block 0 (.loop c100l10)), [], 49⟩
theorem cf100 : cfun Try.prog 100 = some c100 := by kernel_rfl

/-! ### slices.heapSortOrdered[int], params 3 -/
def c101r0 : List AStm := [.op (some 11) none (.mv (.t 1)),
    .op (some 6) none (.mv (.t 11))]
def c101r1 : List AStm := [.op (some 7) none (.mv (.c (.int .i64 0)))]
def c101r2 : List AStm := [.op (some 12) none (.mv (.t 2)),
    .op (some 13) none (.mv (.t 1)),
    .op (some 14) none (.bin .sub (.t 12) (.t 13)),
    .op (some 8) none (.mv (.t 14))]
def c101r3 : List AStm := [.op (some 15) none (.mv (.t 8)),
    .op (some 16) none (.bin .sub (.t 15) (.c (.int .i64 1))),
    .op (some 17) none (.bin .quo (.t 16) (.c (.int .i64 2))),
    .op (some 9) none (.mv (.t 17))]
def c101r4 : List AStm := [.op (some 18) none (.mv (.t 9)),
    .op (some 19) none (.bin .geq (.t 18) (.c (.int .i64 0)))]
def c101r5 : List AStm := [.op (some 22) none (.mv (.t 0)),
    .op (some 23) none (.mv (.t 9)),
    .op (some 24) none (.mv (.t 8)),
    .op (some 25) none (.mv (.t 6)),
    .call (some 26) none (.c (.fn (.func 120) [] [])) [(.t 22), (.t 23), (.t 24), (.t 25)]]
def c101r6 : List AStm := [.op (some 20) none (.mv (.t 9)),
    .op (some 21) none (.bin .sub (.t 20) (.c (.int .i64 1))),
    .op (some 9) none (.mv (.t 21))]
def c101l7 : AC := .seq (.seq (.reg c101r4) (.cond (.t 19) (.skip) (.exit 0))) (.seq (.block 1 (.reg c101r5)) (.reg c101r6))
def c101r8 : List AStm := [.op (some 27) none (.mv (.t 8)),
    .op (some 28) none (.bin .sub (.t 27) (.c (.int .i64 1))),
    .op (some 10) none (.mv (.t 28))]
def c101r9 : List AStm := [.op (some 29) none (.mv (.t 10)),
    .op (some 30) none (.bin .geq (.t 29) (.c (.int .i64 0)))]
def c101r10 : List AStm := [.op (some 33) none (.mv (.t 0)),
    .op (some 34) none (.mv (.t 6)),
    .op (some 35) none (.mv (.t 0)),
    .op (some 36) none (.mv (.t 6)),
    .op (some 37) none (.mv (.t 10)),
    .op (some 38) none (.bin .add (.t 36) (.t 37)),
    .op (some 39) none (.mv (.t 0)),
    .op (some 40) none (.mv (.t 6)),
    .op (some 41) none (.mv (.t 10)),
    .op (some 42) none (.bin .add (.t 40) (.t 41)),
    .op (some 43) none (.ixs 1 (.t 39) (.t 42)),
    .op (some 44) none (.load none (.t 43)),
    .op (some 45) none (.mv (.t 0)),
    .op (some 46) none (.mv (.t 6)),
    .op (some 47) none (.ixs 1 (.t 45) (.t 46)),
    .op (some 48) none (.load none (.t 47)),
    .op (some 49) none (.ixs 1 (.t 33) (.t 34)),
    .op none none (.store 1 (.t 49) (.t 44)),
    .op (some 50) none (.ixs 1 (.t 35) (.t 38)),
    .op none none (.store 1 (.t 50) (.t 48))]
def c101r11 : List AStm := []
def c101r12 : List AStm := [.op (some 51) none (.mv (.t 0)),
    .op (some 52) none (.mv (.t 7)),
    .op (some 53) none (.mv (.t 10)),
    .op (some 54) none (.mv (.t 6)),
    .call (some 55) none (.c (.fn (.func 120) [] [])) [(.t 51), (.t 52), (.t 53), (.t 54)]]
def c101r13 : List AStm := [.op (some 31) none (.mv (.t 10)),
    .op (some 32) none (.bin .sub (.t 31) (.c (.int .i64 1))),
    .op (some 10) none (.mv (.t 32))]
def c101l14 : AC := .seq (.seq (.reg c101r9) (.cond (.t 30) (.skip) (.exit 2))) (.seq (.block 3 (.seq (.dreg c101r10 c101r11) (.reg c101r12))) (.reg c101r13))
def c101 : CF := ⟨.seq (.reg c101r0) (.seq (.reg c101r1) (.seq (.reg c101r2) (.seq (.seq (.reg c101r3) (.block 0 (.loop c101l7))) (.seq (.reg c101r8) (.block 2 (.loop c101l14)))))), [], 56⟩
theorem cf101 : cfun Try.prog 101 = some c101 := by kernel_rfl

/-! ### slices.breakPatternsOrdered[int], params 3 -/
def c102r0 : List AStm := [.op (some 11) none (.mv (.t 2)),
    .op (some 12) none (.mv (.t 1)),
    .op (some 13) none (.bin .sub (.t 11) (.t 12)),
    .op (some 6) none (.mv (.t 13))]
def c102r1 : List AStm := [.op (some 14) none (.mv (.t 6)),
    .op (some 15) none (.bin .geq (.t 14) (.c (.int .i64 8)))]
def c102r2 : List AStm := [.op (some 16) none (.mv (.t 6)),
    .op (some 17) none (.conv .u64 (.t 16)),
    .op (some 7) none (.alloc [(.int .u64 0)]),
    .op none none (.store 1 (.t 7) (.t 17))]
def c102r3 : List AStm := [.op (some 18) none (.mv (.t 6)),
    .call (some 19) none (.c (.fn (.func 116) [] [])) [(.t 18)],
    .op (some 8) none (.mv (.t 19))]
def c102r4 : List AStm := [.op (some 20) none (.mv (.t 1)),
    .op (some 21) none (.mv (.t 6)),
    .op (some 22) none (.bin .quo (.t 21) (.c (.int .i64 4))),
    .op (some 23) none (.bin .mul (.t 22) (.c (.int .i64 2))),
    .op (some 24) none (.bin .add (.t 20) (.t 23)),
    .op (some 25) none (.bin .sub (.t 24) (.c (.int .i64 1))),
    .op (some 9) none (.mv (.t 25))]
def c102r5 : List AStm := [.op (some 26) none (.mv (.t 9)),
    .op (some 27) none (.mv (.t 1)),
    .op (some 28) none (.mv (.t 6)),
    .op (some 29) none (.bin .quo (.t 28) (.c (.int .i64 4))),
    .op (some 30) none (.bin .mul (.t 29) (.c (.int .i64 2))),
    .op (some 31) none (.bin .add (.t 27) (.t 30)),
    .op (some 32) none (.bin .add (.t 31) (.c (.int .i64 1))),
    .op (some 33) none (.bin .leq (.t 26) (.t 32))]
def c102r6 : List AStm := [.call (some 36) none (.c (.fn (.func 117) [] [])) [(.t 7)],
    .op (some 37) none (.mv (.t 8)),
    .op (some 38) none (.bin .sub (.t 37) (.c (.int .u64 1))),
    .op (some 39) none (.bin .and (.t 36) (.t 38)),
    .op (some 40) none (.conv .i64 (.t 39)),
    .op (some 10) none (.mv (.t 40))]
def c102r7 : List AStm := [.op (some 41) none (.mv (.t 10)),
    .op (some 42) none (.mv (.t 6)),
    .op (some 43) none (.bin .geq (.t 41) (.t 42))]
def c102r8 : List AStm := [.op (some 44) none (.mv (.t 10)),
    .op (some 45) none (.mv (.t 6)),
    .op (some 46) none (.bin .sub (.t 44) (.t 45)),
    .op (some 10) none (.mv (.t 46))]
def c102r9 : List AStm := [.op (some 47) none (.mv (.t 0)),
    .op (some 48) none (.mv (.t 9)),
    .op (some 49) none (.mv (.t 0)),
    .op (some 50) none (.mv (.t 1)),
    .op (some 51) none (.mv (.t 10)),
    .op (some 52) none (.bin .add (.t 50) (.t 51)),
    .op (some 53) none (.mv (.t 0)),
    .op (some 54) none (.mv (.t 1)),
    .op (some 55) none (.mv (.t 10)),
    .op (some 56) none (.bin .add (.t 54) (.t 55)),
    .op (some 57) none (.ixs 1 (.t 53) (.t 56)),
    .op (some 58) none (.load none (.t 57)),
    .op (some 59) none (.mv (.t 0)),
    .op (some 60) none (.mv (.t 9)),
    .op (some 61) none (.ixs 1 (.t 59) (.t 60)),
    .op (some 62) none (.load none (.t 61)),
    .op (some 63) none (.ixs 1 (.t 47) (.t 48)),
    .op none none (.store 1 (.t 63) (.t 58)),
    .op (some 64) none (.ixs 1 (.t 49) (.t 52)),
    .op none none (.store 1 (.t 64) (.t 62))]
def c102r10 : List AStm := []
def c102r11 : List AStm := [.op (some 34) none (.mv (.t 9)),
    .op (some 35) none (.bin .add (.t 34) (.c (.int .i64 1))),
    .op (some 9) none (.mv (.t 35))]
def c102l12 : AC := .seq (.seq (.reg c102r5) (.cond (.t 33) (.skip) (.exit 0))) (.seq (.block 1 (.seq (.reg c102r6) (.seq (.seq (.reg c102r7) (.cond (.t 43) (.reg c102r8) (.skip))) (.dreg c102r9 c102r10)))) (.reg c102r11))
def c102 : CF := ⟨.seq (.reg c102r0) (.seq (.reg c102r1) (.cond (.t 15) (.seq (.reg c102r2) (.seq (.reg c102r3) (.seq (.reg c102r4) (.block 0 (.loop c102l12))))) (.skip))), [], 65⟩
theorem cf102 : cfun Try.prog 102 = some c102 := by kernel_rfl

/-! ### slices.choosePivotOrdered[int], params 3 -/
def c103r0 : List AStm := [.op (some 6) none (.mv (.c (.int .i64 0))),
    .op (some 7) none (.mv (.c (.int .i64 0)))]
def c103r1 : List AStm := [.op (some 13) none (.mv (.t 2)),
    .op (some 14) none (.mv (.t 1)),
    .op (some 15) none (.bin .sub (.t 13) (.t 14)),
    .op (some 8) none (.mv (.t 15))]
def c103r2 : List AStm := [.op (some 9) none (.alloc [(.int .i64 0)])]
def c103r3 : List AStm := [.op (some 16) none (.mv (.t 1)),
    .op (some 17) none (.mv (.t 8)),
    .op (some 18) none (.bin .quo (.t 17) (.c (.int .i64 4))),
    .op (some 19) none (.bin .mul (.t 18) (.c (.int .i64 1))),
    .op (some 20) none (.bin .add (.t 16) (.t 19)),
    .op (some 10) none (.mv (.t 20))]
def c103r4 : List AStm := [.op (some 21) none (.mv (.t 1)),
    .op (some 22) none (.mv (.t 8)),
    .op (some 23) none (.bin .quo (.t 22) (.c (.int .i64 4))),
    .op (some 24) none (.bin .mul (.t 23) (.c (.int .i64 2))),
    .op (some 25) none (.bin .add (.t 21) (.t 24)),
    .op (some 11) none (.mv (.t 25))]
def c103r5 : List AStm := [.op (some 26) none (.mv (.t 1)),
    .op (some 27) none (.mv (.t 8)),
    .op (some 28) none (.bin .quo (.t 27) (.c (.int .i64 4))),
    .op (some 29) none (.bin .mul (.t 28) (.c (.int .i64 3))),
    .op (some 30) none (.bin .add (.t 26) (.t 29)),
    .op (some 12) none (.mv (.t 30))]
def c103r6 : List AStm := [.op (some 31) none (.mv (.t 8)),
    .op (some 32) none (.bin .geq (.t 31) (.c (.int .i64 8)))]
def c103r7 : List AStm := [.op (some 33) none (.mv (.t 8)),
    .op (some 34) none (.bin .geq (.t 33) (.c (.int .i64 50)))]
def c103r8 : List AStm := [.op (some 35) none (.mv (.t 0)),
    .op (some 36) none (.mv (.t 10)),
    .call (some 37) none (.c (.fn (.func 121) [] [])) [(.t 35), (.t 36), (.t 9)],
    .op (some 10) none (.mv (.t 37))]
def c103r9 : List AStm := [.op (some 38) none (.mv (.t 0)),
    .op (some 39) none (.mv (.t 11)),
    .call (some 40) none (.c (.fn (.func 121) [] [])) [(.t 38), (.t 39), (.t 9)],
    .op (some 11) none (.mv (.t 40))]
def c103r10 : List AStm := [.op (some 41) none (.mv (.t 0)),
    .op (some 42) none (.mv (.t 12)),
    .call (some 43) none (.c (.fn (.func 121) [] [])) [(.t 41), (.t 42), (.t 9)],
    .op (some 12) none (.mv (.t 43))]
def c103r11 : List AStm := [.op (some 44) none (.mv (.t 0)),
    .op (some 45) none (.mv (.t 10)),
    .op (some 46) none (.mv (.t 11)),
    .op (some 47) none (.mv (.t 12)),
    .call (some 48) none (.c (.fn (.func 122) [] [])) [(.t 44), (.t 45), (.t 46), (.t 47), (.t 9)],
    .op (some 11) none (.mv (.t 48))]
def c103r12 : List AStm := [.op (some 49) none (.load none (.t 9))]
def c103r13 : List AStm := [.op (some 52) none (.bin .eql (.t 49) (.c (.int .i64 0))),
    .op (some 51) none (.mv (.t 52))]
def c103r14 : List AStm := [.op (some 53) none (.mv (.t 11)),
    .op (some 6) none (.mv (.t 53)),
    .op (some 7) none (.mv (.c (.int .i64 1)))]
def c103r15 : List AStm := [.op (some 55) none (.bin .eql (.t 49) (.c (.int .i64 12))),
    .op (some 54) none (.mv (.t 55))]
def c103r16 : List AStm := [.op (some 56) none (.mv (.t 11)),
    .op (some 6) none (.mv (.t 56)),
    .op (some 7) none (.mv (.c (.int .i64 2)))]
def c103r17 : List AStm := [.op (some 50) none (.mv (.t 11)),
    .op (some 6) none (.mv (.t 50)),
    .op (some 7) none (.mv (.c (.int .i64 0)))]
def c103 : CF := ⟨.seq (.reg c103r0) (.seq (.reg c103r1) (.seq (.reg c103r2) (.seq (.reg c103r3) (.seq (.reg c103r4) (.seq (.reg c103r5) (.seq (.seq (.reg c103r6) (.cond (.t 32) (.seq (.seq (.reg c103r7) (.cond (.t 34) (.seq (.reg c103r8) (.seq (.reg c103r9) (.reg c103r10))) (.skip))) (.reg c103r11)) (.skip))) (.seq (.reg c103r12) (.block 0 (.seq (.reg c103r13) (.cond (.t 51) (.seq (.reg c103r14) (.ret)) (.seq (.reg c103r15) (.cond (.t 54) (.seq (.reg c103r16) (.ret)) (.seq (.reg c103r17) (.ret)))))))))))))), [.tmp 6, .tmp 7], 57⟩
theorem cf103 : cfun Try.prog 103 = some c103 := by kernel_rfl

/-! ### slices.reverseRangeOrdered[int], params 3 -/
def c104r0 : List AStm := [.op (some 8) none (.mv (.t 1)),
    .op (some 6) none (.mv (.t 8))]
def c104r1 : List AStm := [.op (some 9) none (.mv (.t 2)),
    .op (some 10) none (.bin .sub (.t 9) (.c (.int .i64 1))),
    .op (some 7) none (.mv (.t 10))]
def c104r2 : List AStm := [.op (some 11) none (.mv (.t 6)),
    .op (some 12) none (.mv (.t 7)),
    .op (some 13) none (.bin .lss (.t 11) (.t 12))]
def c104r3 : List AStm := [.op (some 14) none (.mv (.t 0)),
    .op (some 15) none (.mv (.t 6)),
    .op (some 16) none (.mv (.t 0)),
    .op (some 17) none (.mv (.t 7)),
    .op (some 18) none (.mv (.t 0)),
    .op (some 19) none (.mv (.t 7)),
    .op (some 20) none (.ixs 1 (.t 18) (.t 19)),
    .op (some 21) none (.load none (.t 20)),
    .op (some 22) none (.mv (.t 0)),
    .op (some 23) none (.mv (.t 6)),
    .op (some 24) none (.ixs 1 (.t 22) (.t 23)),
    .op (some 25) none (.load none (.t 24)),
    .op (some 26) none (.ixs 1 (.t 14) (.t 15)),
    .op none none (.store 1 (.t 26) (.t 21)),
    .op (some 27) none (.ixs 1 (.t 16) (.t 17)),
    .op none none (.store 1 (.t 27) (.t 25))]
def c104r4 : List AStm := []
def c104r5 : List AStm := [.op (some 28) none (.mv (.t 6)),
    .op (some 29) none (.bin .add (.t 28) (.c (.int .i64 1))),
    .op (some 6) none (.mv (.t 29))]
def c104r6 : List AStm := [.op (some 30) none (.mv (.t 7)),
    .op (some 31) none (.bin .sub (.t 30) (.c (.int .i64 1))),
    .op (some 7) none (.mv (.t 31))]
def c104l7 : AC := .seq (.seq (.reg c104r2) (.cond (.t 13) (.skip) (.exit 0))) (.block 1 (.seq (.dreg c104r3 c104r4) (.seq (.reg c104r5) (.reg c104r6))))
def c104 : CF := ⟨.seq (.reg c104r0) (.seq (.reg c104r1) (.block 0 (.loop c104l7))), [], 32⟩
theorem cf104 : cfun Try.prog 104 = some c104 := by kernel_rfl

/-! ### slices.partialInsertionSortOrdered[int], params 3 -/
def c105r0 : List AStm := [.op (some 6) none (.mv (.c (.bool false)))]
def c105r1 : List AStm := [.op (some 11) none (.mv (.t 1)),
    .op (some 12) none (.bin .add (.t 11) (.c (.int .i64 1))),
    .op (some 7) none (.mv (.t 12))]
def c105r2 : List AStm := [.op (some 8) none (.mv (.c (.int .i64 0)))]
def c105r3 : List AStm := [.op (some 13) none (.mv (.t 8)),
    .op (some 14) none (.bin .lss (.t 13) (.c (.int .i64 5)))]
def c105r4 : List AStm := []
def c105r5 : List AStm := [.op (some 17) none (.mv (.t 7)),
    .op (some 18) none (.mv (.t 2)),
    .op (some 19) none (.bin .lss (.t 17) (.t 18)),
    .op (some 20) none (.mv (.t 19)),
    .op (some 21) (some (20, true)) (.mv (.t 0)),
    .op (some 22) (some (20, true)) (.mv (.t 7)),
    .op (some 23) (some (20, true)) (.ixs 1 (.t 21) (.t 22)),
    .op (some 24) (some (20, true)) (.load none (.t 23)),
    .op (some 25) (some (20, true)) (.mv (.t 0)),
    .op (some 26) (some (20, true)) (.mv (.t 7)),
    .op (some 27) (some (20, true)) (.bin .sub (.t 26) (.c (.int .i64 1))),
    .op (some 28) (some (20, true)) (.ixs 1 (.t 25) (.t 27)),
    .op (some 29) (some (20, true)) (.load none (.t 28)),
    .callG (some 30) (some (20, true)) (.c (.fn (.func 106) [] [])) [(.t 24), (.t 29)],
    .op (some 31) (some (20, true)) (.un .not (.t 30)),
    .op (some 32) none (.pick (.t 20) (.t 31) (.c (.bool false)))]
def c105r6 : List AStm := [.op (some 33) none (.mv (.t 7)),
    .op (some 34) none (.bin .add (.t 33) (.c (.int .i64 1))),
    .op (some 7) none (.mv (.t 34))]
def c105l7 : AC := .seq (.seq (.dreg c105r4 c105r5) (.cond (.t 32) (.skip) (.exit 2))) (.block 3 (.reg c105r6))
def c105r8 : List AStm := [.op (some 35) none (.mv (.t 7)),
    .op (some 36) none (.mv (.t 2)),
    .op (some 37) none (.bin .eql (.t 35) (.t 36))]
def c105r9 : List AStm := [.op (some 6) none (.mv (.c (.bool true)))]
def c105r10 : List AStm := [.op (some 38) none (.mv (.t 2)),
    .op (some 39) none (.mv (.t 1)),
    .op (some 40) none (.bin .sub (.t 38) (.t 39)),
    .op (some 41) none (.bin .lss (.t 40) (.c (.int .i64 50)))]
def c105r11 : List AStm := [.op (some 6) none (.mv (.c (.bool false)))]
def c105r12 : List AStm := [.op (some 42) none (.mv (.t 0)),
    .op (some 43) none (.mv (.t 7)),
    .op (some 44) none (.mv (.t 0)),
    .op (some 45) none (.mv (.t 7)),
    .op (some 46) none (.bin .sub (.t 45) (.c (.int .i64 1))),
    .op (some 47) none (.mv (.t 0)),
    .op (some 48) none (.mv (.t 7)),
    .op (some 49) none (.bin .sub (.t 48) (.c (.int .i64 1))),
    .op (some 50) none (.ixs 1 (.t 47) (.t 49)),
    .op (some 51) none (.load none (.t 50)),
    .op (some 52) none (.mv (.t 0)),
    .op (some 53) none (.mv (.t 7)),
    .op (some 54) none (.ixs 1 (.t 52) (.t 53)),
    .op (some 55) none (.load none (.t 54)),
    .op (some 56) none (.ixs 1 (.t 42) (.t 43)),
    .op none none (.store 1 (.t 56) (.t 51)),
    .op (some 57) none (.ixs 1 (.t 44) (.t 46)),
    .op none none (.store 1 (.t 57) (.t 55))]
def c105r13 : List AStm := []
def c105r14 : List AStm := [.op (some 58) none (.mv (.t 7)),
    .op (some 59) none (.mv (.t 1)),
    .op (some 60) none (.bin .sub (.t 58) (.t 59)),
    .op (some 61) none (.bin .geq (.t 60) (.c (.int .i64 2)))]
def c105r15 : List AStm := [.op (some 62) none (.mv (.t 7)),
    .op (some 63) none (.bin .sub (.t 62) (.c (.int .i64 1))),
    .op (some 9) none (.mv (.t 63))]
def c105r16 : List AStm := [.op (some 64) none (.mv (.t 9)),
    .op (some 65) none (.bin .geq (.t 64) (.c (.int .i64 1)))]
def c105r17 : List AStm := []
def c105r18 : List AStm := [.op (some 68) none (.mv (.t 0)),
    .op (some 69) none (.mv (.t 9)),
    .op (some 70) none (.ixs 1 (.t 68) (.t 69)),
    .op (some 71) none (.load none (.t 70)),
    .op (some 72) none (.mv (.t 0)),
    .op (some 73) none (.mv (.t 9)),
    .op (some 74) none (.bin .sub (.t 73) (.c (.int .i64 1))),
    .op (some 75) none (.ixs 1 (.t 72) (.t 74)),
    .op (some 76) none (.load none (.t 75)),
    .callG (some 77) none (.c (.fn (.func 106) [] [])) [(.t 71), (.t 76)],
    .op (some 78) none (.un .not (.t 77))]
def c105r19 : List AStm := [.op (some 79) none (.mv (.t 0)),
    .op (some 80) none (.mv (.t 9)),
    .op (some 81) none (.mv (.t 0)),
    .op (some 82) none (.mv (.t 9)),
    .op (some 83) none (.bin .sub (.t 82) (.c (.int .i64 1))),
    .op (some 84) none (.mv (.t 0)),
    .op (some 85) none (.mv (.t 9)),
    .op (some 86) none (.bin .sub (.t 85) (.c (.int .i64 1))),
    .op (some 87) none (.ixs 1 (.t 84) (.t 86)),
    .op (some 88) none (.load none (.t 87)),
    .op (some 89) none (.mv (.t 0)),
    .op (some 90) none (.mv (.t 9)),
    .op (some 91) none (.ixs 1 (.t 89) (.t 90)),
    .op (some 92) none (.load none (.t 91)),
    .op (some 93) none (.ixs 1 (.t 79) (.t 80)),
    .op none none (.store 1 (.t 93) (.t 88)),
    .op (some 94) none (.ixs 1 (.t 81) (.t 83)),
    .op none none (.store 1 (.t 94) (.t 92))]
def c105r20 : List AStm := []
def c105r21 : List AStm := [.op (some 66) none (.mv (.t 9)),
    .op (some 67) none (.bin .sub (.t 66) (.c (.int .i64 1))),
    .op (some 9) none (.mv (.t 67))]
def c105l22 : AC := .seq (.seq (.reg c105r16) (.cond (.t 65) (.skip) (.exit 4))) (.seq (.block 5 (.seq (.seq (.dreg c105r17 c105r18) (.cond (.t 78) (.exit 4) (.skip))) (.dreg c105r19 c105r20))) (.reg c105r21))
def c105r23 : List AStm := [.op (some 95) none (.mv (.t 2)),
    .op (some 96) none (.mv (.t 7)),
    .op (some 97) none (.bin .sub (.t 95) (.t 96)),
    .op (some 98) none (.bin .geq (.t 97) (.c (.int .i64 2)))]
def c105r24 : List AStm := [.op (some 99) none (.mv (.t 7)),
    .op (some 100) none (.bin .add (.t 99) (.c (.int .i64 1))),
    .op (some 10) none (.mv (.t 100))]
def c105r25 : List AStm := [.op (some 101) none (.mv (.t 10)),
    .op (some 102) none (.mv (.t 2)),
    .op (some 103) none (.bin .lss (.t 101) (.t 102))]
def c105r26 : List AStm := []
def c105r27 : List AStm := [.op (some 106) none (.mv (.t 0)),
    .op (some 107) none (.mv (.t 10)),
    .op (some 108) none (.ixs 1 (.t 106) (.t 107)),
    .op (some 109) none (.load none (.t 108)),
    .op (some 110) none (.mv (.t 0)),
    .op (some 111) none (.mv (.t 10)),
    .op (some 112) none (.bin .sub (.t 111) (.c (.int .i64 1))),
    .op (some 113) none (.ixs 1 (.t 110) (.t 112)),
    .op (some 114) none (.load none (.t 113)),
    .callG (some 115) none (.c (.fn (.func 106) [] [])) [(.t 109), (.t 114)],
    .op (some 116) none (.un .not (.t 115))]
def c105r28 : List AStm := [.op (some 117) none (.mv (.t 0)),
    .op (some 118) none (.mv (.t 10)),
    .op (some 119) none (.mv (.t 0)),
    .op (some 120) none (.mv (.t 10)),
    .op (some 121) none (.bin .sub (.t 120) (.c (.int .i64 1))),
    .op (some 122) none (.mv (.t 0)),
    .op (some 123) none (.mv (.t 10)),
    .op (some 124) none (.bin .sub (.t 123) (.c (.int .i64 1))),
    .op (some 125) none (.ixs 1 (.t 122) (.t 124)),
    .op (some 126) none (.load none (.t 125)),
    .op (some 127) none (.mv (.t 0)),
    .op (some 128) none (.mv (.t 10)),
    .op (some 129) none (.ixs 1 (.t 127) (.t 128)),
    .op (some 130) none (.load none (.t 129)),
    .op (some 131) none (.ixs 1 (.t 117) (.t 118)),
    .op none none (.store 1 (.t 131) (.t 126)),
    .op (some 132) none (.ixs 1 (.t 119) (.t 121)),
    .op none none (.store 1 (.t 132) (.t 130))]
def c105r29 : List AStm := []
def c105r30 : List AStm := [.op (some 104) none (.mv (.t 10)),
    .op (some 105) none (.bin .add (.t 104) (.c (.int .i64 1))),
    .op (some 10) none (.mv (.t 105))]
def c105l31 : AC := .seq (.seq (.reg c105r25) (.cond (.t 103) (.skip) (.exit 6))) (.seq (.block 7 (.seq (.seq (.dreg c105r26 c105r27) (.cond (.t 116) (.exit 6) (.skip))) (.dreg c105r28 c105r29))) (.reg c105r30))
def c105r32 : List AStm := [.op (some 15) none (.mv (.t 8)),
    .op (some 16) none (.bin .add (.t 15) (.c (.int .i64 1))),
    .op (some 8) none (.mv (.t 16))]
def c105l33 : AC := .seq (.seq (.reg c105r3) (.cond (.t 14) (.skip) (.exit 0))) (.seq (.block 1 (.seq (.block 2 (.loop c105l7)) (.seq (.seq (.reg c105r8) (.cond (.t 37) (.seq (.reg c105r9) (.ret)) (.skip))) (.seq (.seq (.reg c105r10) (.cond (.t 41) (.seq (.reg c105r11) (.ret)) (.skip))) (.seq (.dreg c105r12 c105r13) (.seq (.seq (.reg c105r14) (.cond (.t 61) (.seq (.reg c105r15) (.block 4 (.loop c105l22))) (.skip))) (.seq (.reg c105r23) (.cond (.t 98) (.seq (.reg c105r24) (.block 6 (.loop c105l31))) (.skip))))))))) (.reg c105r32))
def c105r34 : List AStm := [.op (some 6) none (.mv (.c (.bool false)))]
def c105 : CF := ⟨.seq (.reg c105r0) (.seq (.reg c105r1) (.seq (.seq (.reg c105r2) (.block 0 (.loop c105l33))) (.seq (.reg c105r34) (.ret)))), [.tmp 6], 133⟩
theorem cf105 : cfun Try.prog 105 = some c105 := by kernel_rfl

/-! ### cmp.Less[int], params 2 -/
def c106r0 : List AStm := [.op (some 4) none (.mv (.c (.bool false)))]
def c106r1 : List AStm := [.op (some 5) none (.mv (.t 0)),
    .call (some 6) none (.c (.fn (.func 75) [] [])) [(.t 5)],
    .op (some 7) none (.mv (.t 6)),
    .op (some 8) (some (7, true)) (.mv (.t 1)),
    .call (some 9) (some (7, true)) (.c (.fn (.func 75) [] [])) [(.t 8)],
    .op (some 10) (some (7, true)) (.un .not (.t 9)),
    .op (some 11) none (.pick (.t 7) (.t 10) (.c (.bool false))),
    .op (some 12) none (.mv (.t 11)),
    .op (some 13) (some (12, false)) (.mv (.t 0)),
    .op (some 14) (some (12, false)) (.mv (.t 1)),
    .op (some 15) (some (12, false)) (.bin .lss (.t 13) (.t 14)),
    .op (some 16) none (.pick (.t 12) (.c (.bool true)) (.t 15)),
    .op (some 4) none (.mv (.t 16))]
def c106 : CF := ⟨.seq (.reg c106r0) (.seq (.reg c106r1) (.ret)), [.tmp 4], 17⟩
theorem cf106 : cfun Try.prog 106 = some c106 := by kernel_rfl

/-! ### slices.partitionEqualOrdered[int], params 4 -/
def c107r0 : List AStm := [.op (some 8) none (.mv (.c (.int .i64 0)))]
def c107r1 : List AStm := [.op (some 11) none (.mv (.t 0)),
    .op (some 12) none (.mv (.t 1)),
    .op (some 13) none (.mv (.t 0)),
    .op (some 14) none (.mv (.t 3)),
    .op (some 15) none (.mv (.t 0)),
    .op (some 16) none (.mv (.t 3)),
    .op (some 17) none (.ixs 1 (.t 15) (.t 16)),
    .op (some 18) none (.load none (.t 17)),
    .op (some 19) none (.mv (.t 0)),
    .op (some 20) none (.mv (.t 1)),
    .op (some 21) none (.ixs 1 (.t 19) (.t 20)),
    .op (some 22) none (.load none (.t 21)),
    .op (some 23) none (.ixs 1 (.t 11) (.t 12)),
    .op none none (.store 1 (.t 23) (.t 18)),
    .op (some 24) none (.ixs 1 (.t 13) (.t 14)),
    .op none none (.store 1 (.t 24) (.t 22))]
def c107r2 : List AStm := []
def c107r3 : List AStm := [.op (some 25) none (.mv (.t 1)),
    .op (some 26) none (.bin .add (.t 25) (.c (.int .i64 1))),
    .op (some 27) none (.mv (.t 2)),
    .op (some 28) none (.bin .sub (.t 27) (.c (.int .i64 1))),
    .op (some 9) none (.mv (.t 26)),
    .op (some 10) none (.mv (.t 28))]
def c107r4 : List AStm := []
def c107r5 : List AStm := [.op (some 29) none (.mv (.t 9)),
    .op (some 30) none (.mv (.t 10)),
    .op (some 31) none (.bin .leq (.t 29) (.t 30)),
    .op (some 32) none (.mv (.t 31)),
    .op (some 33) (some (32, true)) (.mv (.t 0)),
    .op (some 34) (some (32, true)) (.mv (.t 1)),
    .op (some 35) (some (32, true)) (.ixs 1 (.t 33) (.t 34)),
    .op (some 36) (some (32, true)) (.load none (.t 35)),
    .op (some 37) (some (32, true)) (.mv (.t 0)),
    .op (some 38) (some (32, true)) (.mv (.t 9)),
    .op (some 39) (some (32, true)) (.ixs 1 (.t 37) (.t 38)),
    .op (some 40) (some (32, true)) (.load none (.t 39)),
    .callG (some 41) (some (32, true)) (.c (.fn (.func 106) [] [])) [(.t 36), (.t 40)],
    .op (some 42) (some (32, true)) (.un .not (.t 41)),
    .op (some 43) none (.pick (.t 32) (.t 42) (.c (.bool false)))]
def c107r6 : List AStm := [.op (some 44) none (.mv (.t 9)),
    .op (some 45) none (.bin .add (.t 44) (.c (.int .i64 1))),
    .op (some 9) none (.mv (.t 45))]
def c107l7 : AC := .seq (.seq (.dreg c107r4 c107r5) (.cond (.t 43) (.skip) (.exit 2))) (.block 3 (.reg c107r6))
def c107r8 : List AStm := []
def c107r9 : List AStm := [.op (some 46) none (.mv (.t 9)),
    .op (some 47) none (.mv (.t 10)),
    .op (some 48) none (.bin .leq (.t 46) (.t 47)),
    .op (some 49) none (.mv (.t 48)),
    .op (some 50) (some (49, true)) (.mv (.t 0)),
    .op (some 51) (some (49, true)) (.mv (.t 1)),
    .op (some 52) (some (49, true)) (.ixs 1 (.t 50) (.t 51)),
    .op (some 53) (some (49, true)) (.load none (.t 52)),
    .op (some 54) (some (49, true)) (.mv (.t 0)),
    .op (some 55) (some (49, true)) (.mv (.t 10)),
    .op (some 56) (some (49, true)) (.ixs 1 (.t 54) (.t 55)),
    .op (some 57) (some (49, true)) (.load none (.t 56)),
    .callG (some 58) (some (49, true)) (.c (.fn (.func 106) [] [])) [(.t 53), (.t 57)],
    .op (some 59) none (.pick (.t 49) (.t 58) (.c (.bool false)))]
def c107r10 : List AStm := [.op (some 60) none (.mv (.t 10)),
    .op (some 61) none (.bin .sub (.t 60) (.c (.int .i64 1))),
    .op (some 10) none (.mv (.t 61))]
def c107l11 : AC := .seq (.seq (.dreg c107r8 c107r9) (.cond (.t 59) (.skip) (.exit 4))) (.block 5 (.reg c107r10))
def c107r12 : List AStm := [.op (some 62) none (.mv (.t 9)),
    .op (some 63) none (.mv (.t 10)),
    .op (some 64) none (.bin .gtr (.t 62) (.t 63))]
def c107r13 : List AStm := [.op (some 65) none (.mv (.t 0)),
    .op (some 66) none (.mv (.t 9)),
    .op (some 67) none (.mv (.t 0)),
    .op (some 68) none (.mv (.t 10)),
    .op (some 69) none (.mv (.t 0)),
    .op (some 70) none (.mv (.t 10)),
    .op (some 71) none (.ixs 1 (.t 69) (.t 70)),
    .op (some 72) none (.load none (.t 71)),
    .op (some 73) none (.mv (.t 0)),
    .op (some 74) none (.mv (.t 9)),
    .op (some 75) none (.ixs 1 (.t 73) (.t 74)),
    .op (some 76) none (.load none (.t 75)),
    .op (some 77) none (.ixs 1 (.t 65) (.t 66)),
    .op none none (.store 1 (.t 77) (.t 72)),
    .op (some 78) none (.ixs 1 (.t 67) (.t 68)),
    .op none none (.store 1 (.t 78) (.t 76))]
def c107r14 : List AStm := []
def c107r15 : List AStm := [.op (some 79) none (.mv (.t 9)),
    .op (some 80) none (.bin .add (.t 79) (.c (.int .i64 1))),
    .op (some 9) none (.mv (.t 80))]
def c107r16 : List AStm := [.op (some 81) none (.mv (.t 10)),
    .op (some 82) none (.bin .sub (.t 81) (.c (.int .i64 1))),
    .op (some 10) none (.mv (.t 82))]
def c107l17 : AC := .block 1 (.seq (.block 2 (.loop c107l7)) (.seq (.block 4 (.loop c107l11)) (.seq (.seq (.reg c107r12) (.cond (.t 64) (.exit 0) (.skip))) (.seq (.dreg c107r13 c107r14) (.seq (.reg c107r15) (.reg c107r16))))))
def c107r18 : List AStm := [.op (some 83) none (.mv (.t 9)),
    .op (some 8) none (.mv (.t 83))]
def c107 : CF := ⟨.seq (.reg c107r0) (.seq (.dreg c107r1 c107r2) (.seq (.reg c107r3) (.seq (.block 0 (.loop c107l17)) (.seq (.reg c107r18) (.ret))))), [.tmp 8], 84⟩
theorem cf107 : cfun Try.prog 107 = some c107 := by kernel_rfl

/-! ### slices.partitionOrdered[int], params 4 -/
def c108r0 : List AStm := [.op (some 8) none (.mv (.c (.int .i64 0))),
    .op (some 9) none (.mv (.c (.bool false)))]
def c108r1 : List AStm := [.op (some 12) none (.mv (.t 0)),
    .op (some 13) none (.mv (.t 1)),
    .op (some 14) none (.mv (.t 0)),
    .op (some 15) none (.mv (.t 3)),
    .op (some 16) none (.mv (.t 0)),
    .op (some 17) none (.mv (.t 3)),
    .op (some 18) none (.ixs 1 (.t 16) (.t 17)),
    .op (some 19) none (.load none (.t 18)),
    .op (some 20) none (.mv (.t 0)),
    .op (some 21) none (.mv (.t 1)),
    .op (some 22) none (.ixs 1 (.t 20) (.t 21)),
    .op (some 23) none (.load none (.t 22)),
    .op (some 24) none (.ixs 1 (.t 12) (.t 13)),
    .op none none (.store 1 (.t 24) (.t 19)),
    .op (some 25) none (.ixs 1 (.t 14) (.t 15)),
    .op none none (.store 1 (.t 25) (.t 23))]
def c108r2 : List AStm := []
def c108r3 : List AStm := [.op (some 26) none (.mv (.t 1)),
    .op (some 27) none (.bin .add (.t 26) (.c (.int .i64 1))),
    .op (some 28) none (.mv (.t 2)),
    .op (some 29) none (.bin .sub (.t 28) (.c (.int .i64 1))),
    .op (some 10) none (.mv (.t 27)),
    .op (some 11) none (.mv (.t 29))]
def c108r4 : List AStm := []
def c108r5 : List AStm := [.op (some 30) none (.mv (.t 10)),
    .op (some 31) none (.mv (.t 11)),
    .op (some 32) none (.bin .leq (.t 30) (.t 31)),
    .op (some 33) none (.mv (.t 32)),
    .op (some 34) (some (33, true)) (.mv (.t 0)),
    .op (some 35) (some (33, true)) (.mv (.t 10)),
    .op (some 36) (some (33, true)) (.ixs 1 (.t 34) (.t 35)),
    .op (some 37) (some (33, true)) (.load none (.t 36)),
    .op (some 38) (some (33, true)) (.mv (.t 0)),
    .op (some 39) (some (33, true)) (.mv (.t 1)),
    .op (some 40) (some (33, true)) (.ixs 1 (.t 38) (.t 39)),
    .op (some 41) (some (33, true)) (.load none (.t 40)),
    .callG (some 42) (some (33, true)) (.c (.fn (.func 106) [] [])) [(.t 37), (.t 41)],
    .op (some 43) none (.pick (.t 33) (.t 42) (.c (.bool false)))]
def c108r6 : List AStm := [.op (some 44) none (.mv (.t 10)),
    .op (some 45) none (.bin .add (.t 44) (.c (.int .i64 1))),
    .op (some 10) none (.mv (.t 45))]
def c108l7 : AC := .seq (.seq (.dreg c108r4 c108r5) (.cond (.t 43) (.skip) (.exit 0))) (.block 1 (.reg c108r6))
def c108r8 : List AStm := []
def c108r9 : List AStm := [.op (some 46) none (.mv (.t 10)),
    .op (some 47) none (.mv (.t 11)),
    .op (some 48) none (.bin .leq (.t 46) (.t 47)),
    .op (some 49) none (.mv (.t 48)),
    .op (some 50) (some (49, true)) (.mv (.t 0)),
    .op (some 51) (some (49, true)) (.mv (.t 11)),
    .op (some 52) (some (49, true)) (.ixs 1 (.t 50) (.t 51)),
    .op (some 53) (some (49, true)) (.load none (.t 52)),
    .op (some 54) (some (49, true)) (.mv (.t 0)),
    .op (some 55) (some (49, true)) (.mv (.t 1)),
    .op (some 56) (some (49, true)) (.ixs 1 (.t 54) (.t 55)),
    .op (some 57) (some (49, true)) (.load none (.t 56)),
    .callG (some 58) (some (49, true)) (.c (.fn (.func 106) [] [])) [(.t 53), (.t 57)],
    .op (some 59) (some (49, true)) (.un .not (.t 58)),
    .op (some 60) none (.pick (.t 49) (.t 59) (.c (.bool false)))]
def c108r10 : List AStm := [.op (some 61) none (.mv (.t 11)),
    .op (some 62) none (.bin .sub (.t 61) (.c (.int .i64 1))),
    .op (some 11) none (.mv (.t 62))]
def c108l11 : AC := .seq (.seq (.dreg c108r8 c108r9) (.cond (.t 60) (.skip) (.exit 2))) (.block 3 (.reg c108r10))
def c108r12 : List AStm := [.op (some 63) none (.mv (.t 10)),
    .op (some 64) none (.mv (.t 11)),
    .op (some 65) none (.bin .gtr (.t 63) (.t 64))]
def c108r13 : List AStm := [.op (some 66) none (.mv (.t 0)),
    .op (some 67) none (.mv (.t 11)),
    .op (some 68) none (.mv (.t 0)),
    .op (some 69) none (.mv (.t 1)),
    .op (some 70) none (.mv (.t 0)),
    .op (some 71) none (.mv (.t 1)),
    .op (some 72) none (.ixs 1 (.t 70) (.t 71)),
    .op (some 73) none (.load none (.t 72)),
    .op (some 74) none (.mv (.t 0)),
    .op (some 75) none (.mv (.t 11)),
    .op (some 76) none (.ixs 1 (.t 74) (.t 75)),
    .op (some 77) none (.load none (.t 76)),
    .op (some 78) none (.ixs 1 (.t 66) (.t 67)),
    .op none none (.store 1 (.t 78) (.t 73)),
    .op (some 79) none (.ixs 1 (.t 68) (.t 69)),
    .op none none (.store 1 (.t 79) (.t 77))]
def c108r14 : List AStm := []
def c108r15 : List AStm := [.op (some 80) none (.mv (.t 11)),
    .op (some 8) none (.mv (.t 80)),
    .op (some 9) none (.mv (.c (.bool true)))]
def c108r16 : List AStm := [.op (some 81) none (.mv (.t 0)),
    .op (some 82) none (.mv (.t 10)),
    .op (some 83) none (.mv (.t 0)),
    .op (some 84) none (.mv (.t 11)),
    .op (some 85) none (.mv (.t 0)),
    .op (some 86) none (.mv (.t 11)),
    .op (some 87) none (.ixs 1 (.t 85) (.t 86)),
    .op (some 88) none (.load none (.t 87)),
    .op (some 89) none (.mv (.t 0)),
    .op (some 90) none (.mv (.t 10)),
    .op (some 91) none (.ixs 1 (.t 89) (.t 90)),
    .op (some 92) none (.load none (.t 91)),
    .op (some 93) none (.ixs 1 (.t 81) (.t 82)),
    .op none none (.store 1 (.t 93) (.t 88)),
    .op (some 94) none (.ixs 1 (.t 83) (.t 84)),
    .op none none (.store 1 (.t 94) (.t 92))]
def c108r17 : List AStm := []
def c108r18 : List AStm := [.op (some 95) none (.mv (.t 10)),
    .op (some 96) none (.bin .add (.t 95) (.c (.int .i64 1))),
    .op (some 10) none (.mv (.t 96))]
def c108r19 : List AStm := [.op (some 97) none (.mv (.t 11)),
    .op (some 98) none (.bin .sub (.t 97) (.c (.int .i64 1))),
    .op (some 11) none (.mv (.t 98))]
def c108r20 : List AStm := []
def c108r21 : List AStm := [.op (some 99) none (.mv (.t 10)),
    .op (some 100) none (.mv (.t 11)),
    .op (some 101) none (.bin .leq (.t 99) (.t 100)),
    .op (some 102) none (.mv (.t 101)),
    .op (some 103) (some (102, true)) (.mv (.t 0)),
    .op (some 104) (some (102, true)) (.mv (.t 10)),
    .op (some 105) (some (102, true)) (.ixs 1 (.t 103) (.t 104)),
    .op (some 106) (some (102, true)) (.load none (.t 105)),
    .op (some 107) (some (102, true)) (.mv (.t 0)),
    .op (some 108) (some (102, true)) (.mv (.t 1)),
    .op (some 109) (some (102, true)) (.ixs 1 (.t 107) (.t 108)),
    .op (some 110) (some (102, true)) (.load none (.t 109)),
    .callG (some 111) (some (102, true)) (.c (.fn (.func 106) [] [])) [(.t 106), (.t 110)],
    .op (some 112) none (.pick (.t 102) (.t 111) (.c (.bool false)))]
def c108r22 : List AStm := [.op (some 113) none (.mv (.t 10)),
    .op (some 114) none (.bin .add (.t 113) (.c (.int .i64 1))),
    .op (some 10) none (.mv (.t 114))]
def c108l23 : AC := .seq (.seq (.dreg c108r20 c108r21) (.cond (.t 112) (.skip) (.exit 6))) (.block 7 (.reg c108r22))
def c108r24 : List AStm := []
def c108r25 : List AStm := [.op (some 115) none (.mv (.t 10)),
    .op (some 116) none (.mv (.t 11)),
    .op (some 117) none (.bin .leq (.t 115) (.t 116)),
    .op (some 118) none (.mv (.t 117)),
    .op (some 119) (some (118, true)) (.mv (.t 0)),
    .op (some 120) (some (118, true)) (.mv (.t 11)),
    .op (some 121) (some (118, true)) (.ixs 1 (.t 119) (.t 120)),
    .op (some 122) (some (118, true)) (.load none (.t 121)),
    .op (some 123) (some (118, true)) (.mv (.t 0)),
    .op (some 124) (some (118, true)) (.mv (.t 1)),
    .op (some 125) (some (118, true)) (.ixs 1 (.t 123) (.t 124)),
    .op (some 126) (some (118, true)) (.load none (.t 125)),
    .callG (some 127) (some (118, true)) (.c (.fn (.func 106) [] [])) [(.t 122), (.t 126)],
    .op (some 128) (some (118, true)) (.un .not (.t 127)),
    .op (some 129) none (.pick (.t 118) (.t 128) (.c (.bool false)))]
def c108r26 : List AStm := [.op (some 130) none (.mv (.t 11)),
    .op (some 131) none (.bin .sub (.t 130) (.c (.int .i64 1))),
    .op (some 11) none (.mv (.t 131))]
def c108l27 : AC := .seq (.seq (.dreg c108r24 c108r25) (.cond (.t 129) (.skip) (.exit 8))) (.block 9 (.reg c108r26))
def c108r28 : List AStm := [.op (some 132) none (.mv (.t 10)),
    .op (some 133) none (.mv (.t 11)),
    .op (some 134) none (.bin .gtr (.t 132) (.t 133))]
def c108r29 : List AStm := [.op (some 135) none (.mv (.t 0)),
    .op (some 136) none (.mv (.t 10)),
    .op (some 137) none (.mv (.t 0)),
    .op (some 138) none (.mv (.t 11)),
    .op (some 139) none (.mv (.t 0)),
    .op (some 140) none (.mv (.t 11)),
    .op (some 141) none (.ixs 1 (.t 139) (.t 140)),
    .op (some 142) none (.load none (.t 141)),
    .op (some 143) none (.mv (.t 0)),
    .op (some 144) none (.mv (.t 10)),
    .op (some 145) none (.ixs 1 (.t 143) (.t 144)),
    .op (some 146) none (.load none (.t 145)),
    .op (some 147) none (.ixs 1 (.t 135) (.t 136)),
    .op none none (.store 1 (.t 147) (.t 142)),
    .op (some 148) none (.ixs 1 (.t 137) (.t 138)),
    .op none none (.store 1 (.t 148) (.t 146))]
def c108r30 : List AStm := []
def c108r31 : List AStm := [.op (some 149) none (.mv (.t 10)),
    .op (some 150) none (.bin .add (.t 149) (.c (.int .i64 1))),
    .op (some 10) none (.mv (.t 150))]
def c108r32 : List AStm := [.op (some 151) none (.mv (.t 11)),
    .op (some 152) none (.bin .sub (.t 151) (.c (.int .i64 1))),
    .op (some 11) none (.mv (.t 152))]
def c108l33 : AC := .block 5 (.seq (.block 6 (.loop c108l23)) (.seq (.block 8 (.loop c108l27)) (.seq (.seq (.reg c108r28) (.cond (.t 134) (.exit 4) (.skip))) (.seq (.dreg c108r29 c108r30) (.seq (.reg c108r31) (.reg c108r32))))))
def c108r34 : List AStm := [.op (some 153) none (.mv (.t 0)),
    .op (some 154) none (.mv (.t 11)),
    .op (some 155) none (.mv (.t 0)),
    .op (some 156) none (.mv (.t 1)),
    .op (some 157) none (.mv (.t 0)),
    .op (some 158) none (.mv (.t 1)),
    .op (some 159) none (.ixs 1 (.t 157) (.t 158)),
    .op (some 160) none (.load none (.t 159)),
    .op (some 161) none (.mv (.t 0)),
    .op (some 162) none (.mv (.t 11)),
    .op (some 163) none (.ixs 1 (.t 161) (.t 162)),
    .op (some 164) none (.load none (.t 163)),
    .op (some 165) none (.ixs 1 (.t 153) (.t 154)),
    .op none none (.store 1 (.t 165) (.t 160)),
    .op (some 166) none (.ixs 1 (.t 155) (.t 156)),
    .op none none (.store 1 (.t 166) (.t 164))]
def c108r35 : List AStm := []
def c108r36 : List AStm := [.op (some 167) none (.mv (.t 11)),
    .op (some 8) none (.mv (.t 167)),
    .op (some 9) none (.mv (.c (.bool false)))]
def c108 : CF := ⟨.seq (.reg c108r0) (.seq (.dreg c108r1 c108r2) (.seq (.reg c108r3) (.seq (.block 0 (.loop c108l7)) (.seq (.block 2 (.loop c108l11)) (.seq (.seq (.reg c108r12) (.cond (.t 65) (.seq (.dreg c108r13 c108r14) (.seq (.reg c108r15) (.ret))) (.skip))) (.seq (.dreg c108r16 c108r17) (.seq (.reg c108r18) (.seq (.reg c108r19) (.seq (.block 4 (.loop c108l33)) (.seq (.dreg c108r34 c108r35) (.seq (.reg c108r36) (.ret)))))))))))), [.tmp 8, .tmp 9], 168⟩
theorem cf108 : cfun Try.prog 108 = some c108 := by kernel_rfl

/-! ### internal/stringslite.IndexByte, params 2 -/
def c111r0 : List AStm := [.op (some 4) none (.mv (.c (.int .i64 0)))]
def c111r1 : List AStm := [.op (some 5) none (.mv (.t 0)),
    .op (some 6) none (.mv (.t 1)),
    .op (some 7) none (.ixb (.t 5) (.t 6)),
    .op (some 4) none (.mv (.t 7))]
def c111 : CF := ⟨.seq (.reg c111r0) (.seq (.reg c111r1) (.ret)), [.tmp 4], 8⟩
theorem cf111 : cfun Try.prog 111 = some c111 := by kernel_rfl

/-! ### internal/bytealg.IndexRabinKarp[string], params 2 -/
def c114r0 : List AStm := [.op (some 4) none (.mv (.c (.int .i64 0)))]
def c114r1 : List AStm := [.op (some 12) none (.mv (.t 1)),
    .call (some 13) none (.c (.fn (.func 126) [] [])) [(.t 12)],
    .op (some 11) none (.mv (.t 13)),
    .op (some 14) none (.ext (.t 11) 0),
    .op (some 15) none (.ext (.t 11) 1),
    .op (some 5) none (.mv (.t 14)),
    .op (some 6) none (.mv (.t 15))]
def c114r2 : List AStm := [.op (some 16) none (.mv (.t 1)),
    .op (some 17) none (.len true (.t 16)),
    .op (some 7) none (.mv (.t 17))]
def c114r3 : List AStm := [.op (some 8) none (.mv (.c (.int .u32 0)))]
def c114r4 : List AStm := [.op (some 9) none (.mv (.c (.int .i64 0)))]
def c114r5 : List AStm := [.op (some 18) none (.mv (.t 9)),
    .op (some 19) none (.mv (.t 7)),
    .op (some 20) none (.bin .lss (.t 18) (.t 19))]
def c114r6 : List AStm := [.op (some 23) none (.mv (.t 8)),
    .op (some 24) none (.bin .mul (.t 23) (.c (.int .u32 16777619))),
    .op (some 25) none (.mv (.t 0)),
    .op (some 26) none (.mv (.t 9)),
    .op (some 27) none (.ixstr (.t 25) (.t 26)),
    .op (some 28) none (.conv .u32 (.t 27)),
    .op (some 29) none (.bin .add (.t 24) (.t 28)),
    .op (some 8) none (.mv (.t 29))]
def c114r7 : List AStm := [.op (some 21) none (.mv (.t 9)),
    .op (some 22) none (.bin .add (.t 21) (.c (.int .i64 1))),
    .op (some 9) none (.mv (.t 22))]
def c114l8 : AC := .seq (.seq (.reg c114r5) (.cond (.t 20) (.skip) (.exit 0))) (.seq (.block 1 (.reg c114r6)) (.reg c114r7))
def c114r9 : List AStm := [.op (some 30) none (.mv (.t 8)),
    .op (some 31) none (.mv (.t 5)),
    .op (some 32) none (.bin .eql (.t 30) (.t 31)),
    .op (some 33) none (.mv (.t 32)),
    .op (some 34) (some (33, true)) (.mv (.t 0)),
    .op (some 35) (some (33, true)) (.mv (.t 7)),
    .op (some 36) (some (33, true)) (.sstr (.t 34) none (some (.t 35))),
    .op (some 37) (some (33, true)) (.mv (.t 1)),
    .op (some 38) (some (33, true)) (.bin .eql (.t 36) (.t 37)),
    .op (some 39) none (.pick (.t 33) (.t 38) (.c (.bool false)))]
def c114r10 : List AStm := [.op (some 4) none (.mv (.c (.int .i64 0)))]
def c114r11 : List AStm := [.op (some 40) none (.mv (.t 7)),
    .op (some 10) none (.mv (.t 40))]
def c114r12 : List AStm := [.op (some 41) none (.mv (.t 10)),
    .op (some 42) none (.mv (.t 0)),
    .op (some 43) none (.len true (.t 42)),
    .op (some 44) none (.bin .lss (.t 41) (.t 43))]
def c114r13 : List AStm := [.op (some 45) none (.mv (.t 8)),
    .op (some 46) none (.bin .mul (.t 45) (.c (.int .u32 16777619))),
    .op (some 8) none (.mv (.t 46))]
def c114r14 : List AStm := [.op (some 47) none (.mv (.t 8)),
    .op (some 48) none (.mv (.t 0)),
    .op (some 49) none (.mv (.t 10)),
    .op (some 50) none (.ixstr (.t 48) (.t 49)),
    .op (some 51) none (.conv .u32 (.t 50)),
    .op (some 52) none (.bin .add (.t 47) (.t 51)),
    .op (some 8) none (.mv (.t 52))]
def c114r15 : List AStm := [.op (some 53) none (.mv (.t 8)),
    .op (some 54) none (.mv (.t 6)),
    .op (some 55) none (.mv (.t 0)),
    .op (some 56) none (.mv (.t 10)),
    .op (some 57) none (.mv (.t 7)),
    .op (some 58) none (.bin .sub (.t 56) (.t 57)),
    .op (some 59) none (.ixstr (.t 55) (.t 58)),
    .op (some 60) none (.conv .u32 (.t 59)),
    .op (some 61) none (.bin .mul (.t 54) (.t 60)),
    .op (some 62) none (.bin .sub (.t 53) (.t 61)),
    .op (some 8) none (.mv (.t 62))]
def c114r16 : List AStm := [.op (some 63) none (.mv (.t 10)),
    .op (some 64) none (.bin .add (.t 63) (.c (.int .i64 1))),
    .op (some 10) none (.mv (.t 64))]
def c114r17 : List AStm := [.op (some 65) none (.mv (.t 8)),
    .op (some 66) none (.mv (.t 5)),
    .op (some 67) none (.bin .eql (.t 65) (.t 66)),
    .op (some 68) none (.mv (.t 67)),
    .op (some 69) (some (68, true)) (.mv (.t 0)),
    .op (some 70) (some (68, true)) (.mv (.t 10)),
    .op (some 71) (some (68, true)) (.mv (.t 7)),
    .op (some 72) (some (68, true)) (.bin .sub (.t 70) (.t 71)),
    .op (some 73) (some (68, true)) (.mv (.t 10)),
    .op (some 74) (some (68, true)) (.sstr (.t 69) (some (.t 72)) (some (.t 73))),
    .op (some 75) (some (68, true)) (.mv (.t 1)),
    .op (some 76) (some (68, true)) (.bin .eql (.t 74) (.t 75)),
    .op (some 77) none (.pick (.t 68) (.t 76) (.c (.bool false)))]
def c114r18 : List AStm := [.op (some 78) none (.mv (.t 10)),
    .op (some 79) none (.mv (.t 7)),
    .op (some 80) none (.bin .sub (.t 78) (.t 79)),
    .op (some 4) none (.mv (.t 80))]
def c114l19 : AC := .seq (.seq (.reg c114r12) (.cond (.t 44) (.skip) (.exit 2))) (.block 3 (.seq (.reg c114r13) (.seq (.reg c114r14) (.seq (.reg c114r15) (.seq (.reg c114r16) (.seq (.reg c114r17) (.cond (.t 77) (.seq (.reg c114r18) (.ret)) (.skip))))))))
def c114r20 : List AStm := [.op (some 4) none (.mv (.c (.int .i64 (-1))))]
def c114 : CF := ⟨.seq (.reg c114r0) (.seq (.reg c114r1) (.seq (.reg c114r2) (.seq (.reg c114r3) (.seq (.seq (.reg c114r4) (.block 0 (.loop c114l8))) (.seq (.seq (.reg c114r9) (.cond (.t 39) (.seq (.reg c114r10) (.ret)) (.skip))) (.seq (.seq (.reg c114r11) (.block 2 (.loop c114l19))) (.seq (.reg c114r20) (.ret)))))))), [.tmp 4], 81⟩
theorem cf114 : cfun Try.prog 114 = some c114 := by kernel_rfl

/-! ### slices.siftDownCmpFunc[weighbridge/api.Span], params 5 -/
def c115r0 : List AStm := [.op (some 12) none (.mv (.t 1)),
    .op (some 10) none (.mv (.t 12))]
def c115r1 : List AStm := [.op (some 13) none (.mv (.t 10)),
    .op (some 14) none (.bin .mul (.c (.int .i64 2)) (.t 13)),
    .op (some 15) none (.bin .add (.t 14) (.c (.int .i64 1))),
    .op (some 11) none (.mv (.t 15))]
def c115r2 : List AStm := [.op (some 16) none (.mv (.t 11)),
    .op (some 17) none (.mv (.t 2)),
    .op (some 18) none (.bin .geq (.t 16) (.t 17))]
def c115r3 : List AStm := []
def c115r4 : List AStm := [.op (some 19) none (.mv (.t 11)),
    .op (some 20) none (.bin .add (.t 19) (.c (.int .i64 1))),
    .op (some 21) none (.mv (.t 2)),
    .op (some 22) none (.bin .lss (.t 20) (.t 21)),
    .op (some 23) none (.mv (.t 22)),
    .op (some 24) (some (23, true)) (.mv (.t 4)),
    .op (some 25) (some (23, true)) (.mv (.t 0)),
    .op (some 26) (some (23, true)) (.mv (.t 3)),
    .op (some 27) (some (23, true)) (.mv (.t 11)),
    .op (some 28) (some (23, true)) (.bin .add (.t 26) (.t 27)),
    .op (some 29) (some (23, true)) (.ixs 2 (.t 25) (.t 28)),
    .op (some 30) (some (23, true)) (.load (some 2) (.t 29)),
    .op (some 31) (some (23, true)) (.mv (.t 0)),
    .op (some 32) (some (23, true)) (.mv (.t 3)),
    .op (some 33) (some (23, true)) (.mv (.t 11)),
    .op (some 34) (some (23, true)) (.bin .add (.t 32) (.t 33)),
    .op (some 35) (some (23, true)) (.bin .add (.t 34) (.c (.int .i64 1))),
    .op (some 36) (some (23, true)) (.ixs 2 (.t 31) (.t 35)),
    .op (some 37) (some (23, true)) (.load (some 2) (.t 36)),
    .callG (some 38) (some (23, true)) (.t 24) [(.t 30), (.t 37)],
    .op (some 39) (some (23, true)) (.bin .lss (.t 38) (.c (.int .i64 0))),
    .op (some 40) none (.pick (.t 23) (.t 39) (.c (.bool false)))]
def c115r5 : List AStm := [.op (some 41) none (.mv (.t 11)),
    .op (some 42) none (.bin .add (.t 41) (.c (.int .i64 1))),
    .op (some 11) none (.mv (.t 42))]
def c115r6 : List AStm := []
def c115r7 : List AStm := [.op (some 43) none (.mv (.t 4)),
    .op (some 44) none (.mv (.t 0)),
    .op (some 45) none (.mv (.t 3)),
    .op (some 46) none (.mv (.t 10)),
    .op (some 47) none (.bin .add (.t 45) (.t 46)),
    .op (some 48) none (.ixs 2 (.t 44) (.t 47)),
    .op (some 49) none (.load (some 2) (.t 48)),
    .op (some 50) none (.mv (.t 0)),
    .op (some 51) none (.mv (.t 3)),
    .op (some 52) none (.mv (.t 11)),
    .op (some 53) none (.bin .add (.t 51) (.t 52)),
    .op (some 54) none (.ixs 2 (.t 50) (.t 53)),
    .op (some 55) none (.load (some 2) (.t 54)),
    .callG (some 56) none (.t 43) [(.t 49), (.t 55)],
    .op (some 57) none (.bin .lss (.t 56) (.c (.int .i64 0))),
    .op (some 58) none (.un .not (.t 57))]
def c115r8 : List AStm := [.op (some 59) none (.mv (.t 0)),
    .op (some 60) none (.mv (.t 3)),
    .op (some 61) none (.mv (.t 10)),
    .op (some 62) none (.bin .add (.t 60) (.t 61)),
    .op (some 63) none (.mv (.t 0)),
    .op (some 64) none (.mv (.t 3)),
    .op (some 65) none (.mv (.t 11)),
    .op (some 66) none (.bin .add (.t 64) (.t 65)),
    .op (some 67) none (.mv (.t 0)),
    .op (some 68) none (.mv (.t 3)),
    .op (some 69) none (.mv (.t 11)),
    .op (some 70) none (.bin .add (.t 68) (.t 69)),
    .op (some 71) none (.ixs 2 (.t 67) (.t 70)),
    .op (some 72) none (.load (some 2) (.t 71)),
    .op (some 73) none (.mv (.t 0)),
    .op (some 74) none (.mv (.t 3)),
    .op (some 75) none (.mv (.t 10)),
    .op (some 76) none (.bin .add (.t 74) (.t 75)),
    .op (some 77) none (.ixs 2 (.t 73) (.t 76)),
    .op (some 78) none (.load (some 2) (.t 77)),
    .op (some 79) none (.ixs 2 (.t 59) (.t 62)),
    .op none none (.store 2 (.t 79) (.t 72)),
    .op (some 80) none (.ixs 2 (.t 63) (.t 66)),
    .op none none (.store 2 (.t 80) (.t 78))]
def c115r9 : List AStm := []
def c115r10 : List AStm := [.op (some 81) none (.mv (.t 11)),
    .op (some 10) none (.mv (.t 81))]
def c115l11 : AC := .block 1 (.seq (.reg c115r1) (.seq (.seq (.reg c115r2) (.cond (.t 18) (.exit 0) (.skip))) (.seq (.seq (.dreg c115r3 c115r4) (.cond (.t 40) (.reg c115r5) (.skip))) (.seq (.seq (.dreg c115r6 c115r7) (.cond (.t 58) (.ret) (.skip))) (.seq (.dreg c115r8 c115r9) (.reg c115r10))))))
def c115 : CF := ⟨.seq (.reg c115r0) (.block 0 (.loop c115l11)), [], 82⟩
theorem cf115 : cfun Try.prog 115 = some c115 := by kernel_rfl

/-! ### slices.nextPowerOfTwo, params 1 -/
def c116r0 : List AStm := [.op (some 2) none (.mv (.c (.int .u64 0)))]
def c116r1 : List AStm := [.op (some 3) none (.mv (.t 0)),
    .op (some 4) none (.conv .u64 (.t 3)),
    .call (some 5) none (.c (.fn (.func 74) [] [])) [(.t 4)],
    .op (some 6) none (.bin .shl (.c (.int .u64 1)) (.t 5)),
    .op (some 2) none (.mv (.t 6))]
def c116 : CF := ⟨.seq (.reg c116r0) (.seq (.reg c116r1) (.ret)), [.tmp 2], 7⟩
theorem cf116 : cfun Try.prog 116 = some c116 := by kernel_rfl

/-! ### (*slices.xorshift).Next, params 1 -/
def c117r0 : List AStm := [.op (some 2) none (.mv (.c (.int .u64 0)))]
def c117r1 : List AStm := [.op (some 3) none (.mv (.t 0)),
    .op (some 4) none (.nilchk (.t 3)),
    .op (some 5) none (.load none (.t 4)),
    .op (some 6) none (.mv (.t 0)),
    .op (some 7) none (.nilchk (.t 6)),
    .op (some 8) none (.load none (.t 7)),
    .op (some 9) none (.bin .shl (.t 8) (.c (.int .u64 13))),
    .op (some 10) none (.bin .xor (.t 5) (.t 9)),
    .op (some 11) none (.nilchk (.t 3)),
    .op none none (.store 1 (.t 11) (.t 10))]
def c117r2 : List AStm := []
def c117r3 : List AStm := [.op (some 12) none (.mv (.t 0)),
    .op (some 13) none (.nilchk (.t 12)),
    .op (some 14) none (.load none (.t 13)),
    .op (some 15) none (.mv (.t 0)),
    .op (some 16) none (.nilchk (.t 15)),
    .op (some 17) none (.load none (.t 16)),
    .op (some 18) none (.bin .shr (.t 17) (.c (.int .u64 7))),
    .op (some 19) none (.bin .xor (.t 14) (.t 18)),
    .op (some 20) none (.nilchk (.t 12)),
    .op none none (.store 1 (.t 20) (.t 19))]
def c117r4 : List AStm := []
def c117r5 : List AStm := [.op (some 21) none (.mv (.t 0)),
    .op (some 22) none (.nilchk (.t 21)),
    .op (some 23) none (.load none (.t 22)),
    .op (some 24) none (.mv (.t 0)),
    .op (some 25) none (.nilchk (.t 24)),
    .op (some 26) none (.load none (.t 25)),
    .op (some 27) none (.bin .shl (.t 26) (.c (.int .u64 17))),
    .op (some 28) none (.bin .xor (.t 23) (.t 27)),
    .op (some 29) none (.nilchk (.t 21)),
    .op none none (.store 1 (.t 29) (.t 28))]
def c117r6 : List AStm := []
def c117r7 : List AStm := [.op (some 30) none (.mv (.t 0)),
    .op (some 31) none (.nilchk (.t 30)),
    .op (some 32) none (.load none (.t 31)),
    .op (some 2) none (.mv (.t 32))]
def c117 : CF := ⟨.seq (.reg c117r0) (.seq (.dreg c117r1 c117r2) (.seq (.dreg c117r3 c117r4) (.seq (.dreg c117r5 c117r6) (.seq (.reg c117r7) (.ret))))), [.tmp 2], 33⟩
theorem cf117 : cfun Try.prog 117 = some c117 := by kernel_rfl

/-! ### slices.medianAdjacentCmpFunc[weighbridge/api.Span], params 4 -/
def c118r0 : List AStm := [.op (some 8) none (.mv (.c (.int .i64 0)))]
def c118r1 : List AStm := [.op (some 9) none (.mv (.t 0)),
    .op (some 10) none (.mv (.t 1)),
    .op (some 11) none (.bin .sub (.t 10) (.c (.int .i64 1))),
    .op (some 12) none (.mv (.t 1)),
    .op (some 13) none (.mv (.t 1)),
    .op (some 14) none (.bin .add (.t 13) (.c (.int .i64 1))),
    .op (some 15) none (.mv (.t 2)),
    .op (some 16) none (.mv (.t 3)),
    .call (some 17) none (.c (.fn (.func 119) [] [])) [(.t 9), (.t 11), (.t 12), (.t 14), (.t 15), (.t 16)],
    .op (some 8) none (.mv (.t 17))]
def c118 : CF := ⟨.seq (.reg c118r0) (.seq (.reg c118r1) (.ret)), [.tmp 8], 18⟩
theorem cf118 : cfun Try.prog 118 = some c118 := by kernel_rfl

/-! ### slices.medianCmpFunc[weighbridge/api.Span], params 6 -/
def c119r0 : List AStm := [.op (some 12) none (.mv (.c (.int .i64 0)))]
def c119r1 : List AStm := [.op (some 14) none (.mv (.t 0)),
    .op (some 15) none (.mv (.t 1)),
    .op (some 16) none (.mv (.t 2)),
    .op (some 17) none (.mv (.t 4)),
    .op (some 18) none (.mv (.t 5)),
    .call (some 19) none (.c (.fn (.func 127) [] [])) [(.t 14), (.t 15), (.t 16), (.t 17), (.t 18)],
    .op (some 13) none (.mv (.t 19)),
    .op (some 20) none (.ext (.t 13) 0),
    .op (some 21) none (.ext (.t 13) 1),
    .op (some 1) none (.mv (.t 20)),
    .op (some 2) none (.mv (.t 21))]
def c119r2 : List AStm := [.op (some 23) none (.mv (.t 0)),
    .op (some 24) none (.mv (.t 2)),
    .op (some 25) none (.mv (.t 3)),
    .op (some 26) none (.mv (.t 4)),
    .op (some 27) none (.mv (.t 5)),
    .call (some 28) none (.c (.fn (.func 127) [] [])) [(.t 23), (.t 24), (.t 25), (.t 26), (.t 27)],
    .op (some 22) none (.mv (.t 28)),
    .op (some 29) none (.ext (.t 22) 0),
    .op (some 30) none (.ext (.t 22) 1),
    .op (some 2) none (.mv (.t 29)),
    .op (some 3) none (.mv (.t 30))]
def c119r3 : List AStm := [.op (some 32) none (.mv (.t 0)),
    .op (some 33) none (.mv (.t 1)),
    .op (some 34) none (.mv (.t 2)),
    .op (some 35) none (.mv (.t 4)),
    .op (some 36) none (.mv (.t 5)),
    .call (some 37) none (.c (.fn (.func 127) [] [])) [(.t 32), (.t 33), (.t 34), (.t 35), (.t 36)],
    .op (some 31) none (.mv (.t 37)),
    .op (some 38) none (.ext (.t 31) 0),
    .op (some 39) none (.ext (.t 31) 1),
    .op (some 1) none (.mv (.t 38)),
    .op (some 2) none (.mv (.t 39))]
def c119r4 : List AStm := [.op (some 40) none (.mv (.t 2)),
    .op (some 12) none (.mv (.t 40))]
def c119 : CF := ⟨.seq (.reg c119r0) (.seq (.reg c119r1) (.seq (.reg c119r2) (.seq (.reg c119r3) (.seq (.reg c119r4) (.ret))))), [.tmp 12], 41⟩
theorem cf119 : cfun Try.prog 119 = some c119 := by kernel_rfl

/-! ### slices.siftDownOrdered[int], params 4 -/
def c120r0 : List AStm := [.op (some 10) none (.mv (.t 1)),
    .op (some 8) none (.mv (.t 10))]
def c120r1 : List AStm := [.op (some 11) none (.mv (.t 8)),
    .op (some 12) none (.bin .mul (.c (.int .i64 2)) (.t 11)),
    .op (some 13) none (.bin .add (.t 12) (.c (.int .i64 1))),
    .op (some 9) none (.mv (.t 13))]
def c120r2 : List AStm := [.op (some 14) none (.mv (.t 9)),
    .op (some 15) none (.mv (.t 2)),
    .op (some 16) none (.bin .geq (.t 14) (.t 15))]
def c120r3 : List AStm := []
def c120r4 : List AStm := [.op (some 17) none (.mv (.t 9)),
    .op (some 18) none (.bin .add (.t 17) (.c (.int .i64 1))),
    .op (some 19) none (.mv (.t 2)),
    .op (some 20) none (.bin .lss (.t 18) (.t 19)),
    .op (some 21) none (.mv (.t 20)),
    .op (some 22) (some (21, true)) (.mv (.t 0)),
    .op (some 23) (some (21, true)) (.mv (.t 3)),
    .op (some 24) (some (21, true)) (.mv (.t 9)),
    .op (some 25) (some (21, true)) (.bin .add (.t 23) (.t 24)),
    .op (some 26) (some (21, true)) (.ixs 1 (.t 22) (.t 25)),
    .op (some 27) (some (21, true)) (.load none (.t 26)),
    .op (some 28) (some (21, true)) (.mv (.t 0)),
    .op (some 29) (some (21, true)) (.mv (.t 3)),
    .op (some 30) (some (21, true)) (.mv (.t 9)),
    .op (some 31) (some (21, true)) (.bin .add (.t 29) (.t 30)),
    .op (some 32) (some (21, true)) (.bin .add (.t 31) (.c (.int .i64 1))),
    .op (some 33) (some (21, true)) (.ixs 1 (.t 28) (.t 32)),
    .op (some 34) (some (21, true)) (.load none (.t 33)),
    .callG (some 35) (some (21, true)) (.c (.fn (.func 106) [] [])) [(.t 27), (.t 34)],
    .op (some 36) none (.pick (.t 21) (.t 35) (.c (.bool false)))]
def c120r5 : List AStm := [.op (some 37) none (.mv (.t 9)),
    .op (some 38) none (.bin .add (.t 37) (.c (.int .i64 1))),
    .op (some 9) none (.mv (.t 38))]
def c120r6 : List AStm := []
def c120r7 : List AStm := [.op (some 39) none (.mv (.t 0)),
    .op (some 40) none (.mv (.t 3)),
    .op (some 41) none (.mv (.t 8)),
    .op (some 42) none (.bin .add (.t 40) (.t 41)),
    .op (some 43) none (.ixs 1 (.t 39) (.t 42)),
    .op (some 44) none (.load none (.t 43)),
    .op (some 45) none (.mv (.t 0)),
    .op (some 46) none (.mv (.t 3)),
    .op (some 47) none (.mv (.t 9)),
    .op (some 48) none (.bin .add (.t 46) (.t 47)),
    .op (some 49) none (.ixs 1 (.t 45) (.t 48)),
    .op (some 50) none (.load none (.t 49)),
    .callG (some 51) none (.c (.fn (.func 106) [] [])) [(.t 44), (.t 50)],
    .op (some 52) none (.un .not (.t 51))]
def c120r8 : List AStm := [.op (some 53) none (.mv (.t 0)),
    .op (some 54) none (.mv (.t 3)),
    .op (some 55) none (.mv (.t 8)),
    .op (some 56) none (.bin .add (.t 54) (.t 55)),
    .op (some 57) none (.mv (.t 0)),
    .op (some 58) none (.mv (.t 3)),
    .op (some 59) none (.mv (.t 9)),
    .op (some 60) none (.bin .add (.t 58) (.t 59)),
    .op (some 61) none (.mv (.t 0)),
    .op (some 62) none (.mv (.t 3)),
    .op (some 63) none (.mv (.t 9)),
    .op (some 64) none (.bin .add (.t 62) (.t 63)),
    .op (some 65) none (.ixs 1 (.t 61) (.t 64)),
    .op (some 66) none (.load none (.t 65)),
    .op (some 67) none (.mv (.t 0)),
    .op (some 68) none (.mv (.t 3)),
    .op (some 69) none (.mv (.t 8)),
    .op (some 70) none (.bin .add (.t 68) (.t 69)),
    .op (some 71) none (.ixs 1 (.t 67) (.t 70)),
    .op (some 72) none (.load none (.t 71)),
    .op (some 73) none (.ixs 1 (.t 53) (.t 56)),
    .op none none (.store 1 (.t 73) (.t 66)),
    .op (some 74) none (.ixs 1 (.t 57) (.t 60)),
    .op none none (.store 1 (.t 74) (.t 72))]
def c120r9 : List AStm := []
def c120r10 : List AStm := [.op (some 75) none (.mv (.t 9)),
    .op (some 8) none (.mv (.t 75))]
def c120l11 : AC := .block 1 (.seq (.reg c120r1) (.seq (.seq (.reg c120r2) (.cond (.t 16) (.exit 0) (.skip))) (.seq (.seq (.dreg c120r3 c120r4) (.cond (.t 36) (.reg c120r5) (.skip))) (.seq (.seq (.dreg c120r6 c120r7) (.cond (.t 52) (.ret) (.skip))) (.seq (.dreg c120r8 c120r9) (.reg c120r10))))))
def c120 : CF := ⟨.seq (.reg c120r0) (.block 0 (.loop c120l11)), [], 76⟩
theorem cf120 : cfun Try.prog 120 = some c120 := by kernel_rfl

/-! ### slices.medianAdjacentOrdered[int], params 3 -/
def c121r0 : List AStm := [.op (some 6) none (.mv (.c (.int .i64 0)))]
def c121r1 : List AStm := [.op (some 7) none (.mv (.t 0)),
    .op (some 8) none (.mv (.t 1)),
    .op (some 9) none (.bin .sub (.t 8) (.c (.int .i64 1))),
    .op (some 10) none (.mv (.t 1)),
    .op (some 11) none (.mv (.t 1)),
    .op (some 12) none (.bin .add (.t 11) (.c (.int .i64 1))),
    .op (some 13) none (.mv (.t 2)),
    .call (some 14) none (.c (.fn (.func 122) [] [])) [(.t 7), (.t 9), (.t 10), (.t 12), (.t 13)],
    .op (some 6) none (.mv (.t 14))]
def c121 : CF := ⟨.seq (.reg c121r0) (.seq (.reg c121r1) (.ret)), [.tmp 6], 15⟩
theorem cf121 : cfun Try.prog 121 = some c121 := by kernel_rfl

/-! ### slices.medianOrdered[int], params 5 -/
def c122r0 : List AStm := [.op (some 10) none (.mv (.c (.int .i64 0)))]
def c122r1 : List AStm := [.op (some 12) none (.mv (.t 0)),
    .op (some 13) none (.mv (.t 1)),
    .op (some 14) none (.mv (.t 2)),
    .op (some 15) none (.mv (.t 4)),
    .call (some 16) none (.c (.fn (.func 128) [] [])) [(.t 12), (.t 13), (.t 14), (.t 15)],
    .op (some 11) none (.mv (.t 16)),
    .op (some 17) none (.ext (.t 11) 0),
    .op (some 18) none (.ext (.t 11) 1),
    .op (some 1) none (.mv (.t 17)),
    .op (some 2) none (.mv (.t 18))]
def c122r2 : List AStm := [.op (some 20) none (.mv (.t 0)),
    .op (some 21) none (.mv (.t 2)),
    .op (some 22) none (.mv (.t 3)),
    .op (some 23) none (.mv (.t 4)),
    .call (some 24) none (.c (.fn (.func 128) [] [])) [(.t 20), (.t 21), (.t 22), (.t 23)],
    .op (some 19) none (.mv (.t 24)),
    .op (some 25) none (.ext (.t 19) 0),
    .op (some 26) none (.ext (.t 19) 1),
    .op (some 2) none (.mv (.t 25)),
    .op (some 3) none (.mv (.t 26))]
def c122r3 : List AStm := [.op (some 28) none (.mv (.t 0)),
    .op (some 29) none (.mv (.t 1)),
    .op (some 30) none (.mv (.t 2)),
    .op (some 31) none (.mv (.t 4)),
    .call (some 32) none (.c (.fn (.func 128) [] [])) [(.t 28), (.t 29), (.t 30), (.t 31)],
    .op (some 27) none (.mv (.t 32)),
    .op (some 33) none (.ext (.t 27) 0),
    .op (some 34) none (.ext (.t 27) 1),
    .op (some 1) none (.mv (.t 33)),
    .op (some 2) none (.mv (.t 34))]
def c122r4 : List AStm := [.op (some 35) none (.mv (.t 2)),
    .op (some 10) none (.mv (.t 35))]
def c122 : CF := ⟨.seq (.reg c122r0) (.seq (.reg c122r1) (.seq (.reg c122r2) (.seq (.reg c122r3) (.seq (.reg c122r4) (.ret))))), [.tmp 10], 36⟩
theorem cf122 : cfun Try.prog 122 = some c122 := by kernel_rfl

/-! ### internal/bytealg.hashStr[string], params 1 -/
def c126r0 : List AStm := [.op (some 2) none (.mv (.c (.int .u32 0))),
    .op (some 3) none (.mv (.c (.int .u32 0)))]
def c126r1 : List AStm := [.op (some 4) none (.mv (.c (.int .u32 0)))]
def c126r2 : List AStm := [.op (some 5) none (.mv (.c (.int .i64 0)))]
def c126r3 : List AStm := [.op (some 9) none (.mv (.t 5)),
    .op (some 10) none (.mv (.t 0)),
    .op (some 11) none (.len true (.t 10)),
    .op (some 12) none (.bin .lss (.t 9) (.t 11))]
def c126r4 : List AStm := [.op (some 15) none (.mv (.t 4)),
    .op (some 16) none (.bin .mul (.t 15) (.c (.int .u32 16777619))),
    .op (some 17) none (.mv (.t 0)),
    .op (some 18) none (.mv (.t 5)),
    .op (some 19) none (.ixstr (.t 17) (.t 18)),
    .op (some 20) none (.conv .u32 (.t 19)),
    .op (some 21) none (.bin .add (.t 16) (.t 20)),
    .op (some 4) none (.mv (.t 21))]
def c126r5 : List AStm := [.op (some 13) none (.mv (.t 5)),
    .op (some 14) none (.bin .add (.t 13) (.c (.int .i64 1))),
    .op (some 5) none (.mv (.t 14))]
def c126l6 : AC := .seq (.seq (.reg c126r3) (.cond (.t 12) (.skip) (.exit 0))) (.seq (.block 1 (.reg c126r4)) (.reg c126r5))
def c126r7 : List AStm := [.op (some 6) none (.mv (.c (.int .u32 1))),
    .op (some 7) none (.mv (.c (.int .u32 16777619)))]
def c126r8 : List AStm := [.op (some 22) none (.mv (.t 0)),
    .op (some 23) none (.len true (.t 22)),
    .op (some 8) none (.mv (.t 23))]
def c126r9 : List AStm := [.op (some 24) none (.mv (.t 8)),
    .op (some 25) none (.bin .gtr (.t 24) (.c (.int .i64 0)))]
def c126r10 : List AStm := [.op (some 28) none (.mv (.t 8)),
    .op (some 29) none (.bin .and (.t 28) (.c (.int .i64 1))),
    .op (some 30) none (.bin .neq (.t 29) (.c (.int .i64 0)))]
def c126r11 : List AStm := [.op (some 31) none (.mv (.t 6)),
    .op (some 32) none (.mv (.t 7)),
    .op (some 33) none (.bin .mul (.t 31) (.t 32)),
    .op (some 6) none (.mv (.t 33))]
def c126r12 : List AStm := [.op (some 34) none (.mv (.t 7)),
    .op (some 35) none (.mv (.t 7)),
    .op (some 36) none (.bin .mul (.t 34) (.t 35)),
    .op (some 7) none (.mv (.t 36))]
def c126r13 : List AStm := [.op (some 26) none (.mv (.t 8)),
    .op (some 27) none (.bin .shr (.t 26) (.c (.int .u64 1))),
    .op (some 8) none (.mv (.t 27))]
def c126l14 : AC := .seq (.seq (.reg c126r9) (.cond (.t 25) (.skip) (.exit 2))) (.seq (.block 3 (.seq (.seq (.reg c126r10) (.cond (.t 30) (.reg c126r11) (.skip))) (.reg c126r12))) (.reg c126r13))
def c126r15 : List AStm := [.op (some 37) none (.mv (.t 4)),
    .op (some 38) none (.mv (.t 6)),
    .op (some 2) none (.mv (.t 37)),
    .op (some 3) none (.mv (.t 38))]
def c126 : CF := ⟨.seq (.reg c126r0) (.seq (.reg c126r1) (.seq (.seq (.reg c126r2) (.block 0 (.loop c126l6))) (.seq (.reg c126r7) (.seq (.seq (.reg c126r8) (.block 2 (.loop c126l14))) (.seq (.reg c126r15) (.ret)))))), [.tmp 2, .tmp 3], 39⟩
theorem cf126 : cfun Try.prog 126 = some c126 := by kernel_rfl

/-! ### slices.order2CmpFunc[weighbridge/api.Span], params 5 -/
def c127r0 : List AStm := [.op (some 10) none (.mv (.c (.int .i64 0))),
    .op (some 11) none (.mv (.c (.int .i64 0)))]
def c127r1 : List AStm := []
def c127r2 : List AStm := [.op (some 12) none (.mv (.t 4)),
    .op (some 13) none (.mv (.t 0)),
    .op (some 14) none (.mv (.t 2)),
    .op (some 15) none (.ixs 2 (.t 13) (.t 14)),
    .op (some 16) none (.load (some 2) (.t 15)),
    .op (some 17) none (.mv (.t 0)),
    .op (some 18) none (.mv (.t 1)),
    .op (some 19) none (.ixs 2 (.t 17) (.t 18)),
    .op (some 20) none (.load (some 2) (.t 19)),
    .callG (some 21) none (.t 12) [(.t 16), (.t 20)],
    .op (some 22) none (.bin .lss (.t 21) (.c (.int .i64 0)))]
def c127r3 : List AStm := [.op (some 23) none (.mv (.t 3)),
    .op (some 24) none (.nilchk (.t 23)),
    .op (some 25) none (.load none (.t 24)),
    .op (some 26) none (.bin .add (.t 25) (.c (.int .i64 1))),
    .op (some 27) none (.nilchk (.t 23)),
    .op none none (.store 1 (.t 27) (.t 26))]
def c127r4 : List AStm := [.op (some 28) none (.mv (.t 2)),
    .op (some 29) none (.mv (.t 1)),
    .op (some 10) none (.mv (.t 28)),
    .op (some 11) none (.mv (.t 29))]
def c127r5 : List AStm := [.op (some 30) none (.mv (.t 1)),
    .op (some 31) none (.mv (.t 2)),
    .op (some 10) none (.mv (.t 30)),
    .op (some 11) none (.mv (.t 31))]
def c127 : CF := ⟨.seq (.reg c127r0) (.seq (.seq (.dreg c127r1 c127r2) (.cond (.t 22) (.seq (.reg c127r3) (.seq (.reg c127r4) (.ret))) (.skip))) (.seq (.reg c127r5) (.ret))), [.tmp 10, .tmp 11], 32⟩
theorem cf127 : cfun Try.prog 127 = some c127 := by kernel_rfl

/-! ### slices.order2Ordered[int], params 4 -/
def c128r0 : List AStm := [.op (some 8) none (.mv (.c (.int .i64 0))),
    .op (some 9) none (.mv (.c (.int .i64 0)))]
def c128r1 : List AStm := []
def c128r2 : List AStm := [.op (some 10) none (.mv (.t 0)),
    .op (some 11) none (.mv (.t 2)),
    .op (some 12) none (.ixs 1 (.t 10) (.t 11)),
    .op (some 13) none (.load none (.t 12)),
    .op (some 14) none (.mv (.t 0)),
    .op (some 15) none (.mv (.t 1)),
    .op (some 16) none (.ixs 1 (.t 14) (.t 15)),
    .op (some 17) none (.load none (.t 16)),
    .callG (some 18) none (.c (.fn (.func 106) [] [])) [(.t 13), (.t 17)]]
def c128r3 : List AStm := [.op (some 19) none (.mv (.t 3)),
    .op (some 20) none (.nilchk (.t 19)),
    .op (some 21) none (.load none (.t 20)),
    .op (some 22) none (.bin .add (.t 21) (.c (.int .i64 1))),
    .op (some 23) none (.nilchk (.t 19)),
    .op none none (.store 1 (.t 23) (.t 22))]
def c128r4 : List AStm := [.op (some 24) none (.mv (.t 2)),
    .op (some 25) none (.mv (.t 1)),
    .op (some 8) none (.mv (.t 24)),
    .op (some 9) none (.mv (.t 25))]
def c128r5 : List AStm := [.op (some 26) none (.mv (.t 1)),
    .op (some 27) none (.mv (.t 2)),
    .op (some 8) none (.mv (.t 26)),
    .op (some 9) none (.mv (.t 27))]
def c128 : CF := ⟨.seq (.reg c128r0) (.seq (.seq (.dreg c128r1 c128r2) (.cond (.t 18) (.seq (.reg c128r3) (.seq (.reg c128r4) (.ret))) (.skip))) (.seq (.reg c128r5) (.ret))), [.tmp 8, .tmp 9], 28⟩
theorem cf128 : cfun Try.prog 128 = some c128 := by kernel_rfl


def orc08 : Ytagklimaiognnaa.Callee := orcOf 49 textR noOrc
theorem orc08_ok : CallOk Try.prog orc08 := orcOf_ok textR_ok noOrc_ok
def live08_tab : List (FuncId × CF) := [(10, c10), (12, c12), (13, c13), (15, c15), (17, c17), (19, c19), (21, c21), (23, c23), (25, c25), (26, c26), (41, c41), (43, c43), (44, c44), (45, c45), (48, c48), (49, c49), (50, c50), (52, c52), (53, c53), (54, c54), (55, c55), (56, c56), (58, c58), (59, c59), (60, c60), (69, c69), (70, c70), (71, c71), (73, c73), (74, c74), (75, c75), (76, c76), (80, c80), (81, c81), (82, c82), (83, c83), (90, c90), (91, c91), (92, c92), (93, c93), (94, c94), (95, c95), (96, c96), (97, c97), (98, c98), (99, c99), (100, c100), (101, c101), (102, c102), (103, c103), (104, c104), (105, c105), (106, c106), (107, c107), (108, c108), (111, c111), (114, c114), (115, c115), (116, c116), (117, c117), (118, c118), (119, c119), (120, c120), (121, c121), (122, c122), (126, c126), (127, c127), (128, c128)]
theorem live08_ok : ∀ p ∈ live08_tab, cfun Try.prog p.1 = some p.2 := by
  intro p hp
  simp only [live08_tab, List.mem_cons, List.not_mem_nil, or_false] at hp
  rcases hp with rfl | rfl | rfl | rfl | rfl | rfl | rfl | rfl | rfl | rfl | rfl | rfl | rfl | rfl | rfl | rfl | rfl | rfl | rfl | rfl | rfl | rfl | rfl | rfl | rfl | rfl | rfl | rfl | rfl | rfl | rfl | rfl | rfl | rfl | rfl | rfl | rfl | rfl | rfl | rfl | rfl | rfl | rfl | rfl | rfl | rfl | rfl | rfl | rfl | rfl | rfl | rfl | rfl | rfl | rfl | rfl | rfl | rfl | rfl | rfl | rfl | rfl | rfl | rfl | rfl | rfl | rfl | rfl
  · exact cf10
  · exact cf12
  · exact cf13
  · exact cf15
  · exact cf17
  · exact cf19
  · exact cf21
  · exact cf23
  · exact cf25
  · exact cf26
  · exact cf41
  · exact cf43
  · exact cf44
  · exact cf45
  · exact cf48
  · exact cf49
  · exact cf50
  · exact cf52
  · exact cf53
  · exact cf54
  · exact cf55
  · exact cf56
  · exact cf58
  · exact cf59
  · exact cf60
  · exact cf69
  · exact cf70
  · exact cf71
  · exact cf73
  · exact cf74
  · exact cf75
  · exact cf76
  · exact cf80
  · exact cf81
  · exact cf82
  · exact cf83
  · exact cf90
  · exact cf91
  · exact cf92
  · exact cf93
  · exact cf94
  · exact cf95
  · exact cf96
  · exact cf97
  · exact cf98
  · exact cf99
  · exact cf100
  · exact cf101
  · exact cf102
  · exact cf103
  · exact cf104
  · exact cf105
  · exact cf106
  · exact cf107
  · exact cf108
  · exact cf111
  · exact cf114
  · exact cf115
  · exact cf116
  · exact cf117
  · exact cf118
  · exact cf119
  · exact cf120
  · exact cf121
  · exact cf122
  · exact cf126
  · exact cf127
  · exact cf128
theorem live08_run : saysTrue (callee orc08 (tabOf live08_tab) 400 12 [] []) = true := by kernel_rfl
theorem live08 (h : Heap) : FC Try.prog 12 [] h fun d h' => d = .bool true ∧ h' = h := live_of' hmix orc08_ok live08_ok live08_run rfl h

end Go.Proofs.L08
