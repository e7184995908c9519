import Derived.Test.YtodlpcoffmnmbaaMp
import Derived.Test.YtodlpcoffmnmbaaMb
/-
  Own work. Spans, rules and keys as data; the walks of span.is, Check, All, Has, Meet and of rule.isClass, asked, Check, Matches, Any.
-/
namespace Go.Proofs
open Go Go.Ytodlpcoffmnmbaa
set_option linter.unusedVariables false
set_option linter.unusedSimpArgs false
set_option linter.unusedSectionVars false
set_option maxRecDepth 10000

/-! ### weighbridge/rule.isClass, params 1 -/
def c49r0 : List AStm := [.op (some 2) none (.mv (.c (.bool false)))]
def c49r1 : List AStm := [.op (some 3) none (.mv (.t 0)),
    .op (some 4) none (.bin .geq (.t 3) (.c (.int .i64 0))),
    .op (some 5) none (.mv (.t 4)),
    .op (some 6) (some (5, true)) (.mv (.t 0)),
    .op (some 7) (some (5, true)) (.bin .lss (.t 6) (.c (.int .i64 16))),
    .op (some 8) none (.pick (.t 5) (.t 7) (.c (.bool false))),
    .op (some 2) none (.mv (.t 8))]
def c49 : CF := ⟨.seq (.reg c49r0) (.seq (.reg c49r1) (.ret)), [.tmp 2], 9⟩
theorem cf49 : cfun Try.prog 49 = some c49 := by kernel_rfl

/-! ### weighbridge/rule.asked, params 2 -/
def c37r0 : List AStm := [.op (some 4) none (.mv (.c (.bool false)))]
def c37r1 : List AStm := [.op (some 5) none (.mv (.t 0)),
    .op (some 6) none (.bin .eql (.t 5) (.c (.int .i64 (-1)))),
    .op (some 7) none (.mv (.t 6)),
    .op (some 8) (some (7, false)) (.mv (.t 0)),
    .op (some 9) (some (7, false)) (.mv (.t 1)),
    .op (some 10) (some (7, false)) (.bin .eql (.t 8) (.t 9)),
    .op (some 11) none (.pick (.t 7) (.c (.bool true)) (.t 10)),
    .op (some 4) none (.mv (.t 11))]
def c37 : CF := ⟨.seq (.reg c37r0) (.seq (.reg c37r1) (.ret)), [.tmp 4], 12⟩
theorem cf37 : cfun Try.prog 37 = some c37 := by kernel_rfl

/-! ### weighbridge/rule.Check, params 1 -/
def c13r0 : List AStm := [.op (some 1) none (.box (.t 0)),
    .op (some 2) none (.mv (.c (.int .i64 0)))]
def c13r1 : List AStm := [.op (some 9) none (.faddr 0 (.t 1)),
    .op (some 10) none (.load (some 18) (.t 9)),
    .op (some 11) none (.faddr 18 (.t 1)),
    .op (some 12) none (.load (some 18) (.t 11)),
    .op (some 13) none (.build [(.int .i64 0), (.int .u8 0), (.int .u8 0), (.int .u8 0), (.int .u8 0), (.int .u8 0), (.int .u8 0), (.int .u8 0), (.int .u8 0), (.int .u8 0), (.int .u8 0), (.int .u8 0), (.int .u8 0), (.int .u8 0), (.int .u8 0), (.int .u8 0), (.int .u8 0), (.int .i64 0), (.int .i64 0), (.int .u8 0), (.int .u8 0), (.int .u8 0), (.int .u8 0), (.int .u8 0), (.int .u8 0), (.int .u8 0), (.int .u8 0), (.int .u8 0), (.int .u8 0), (.int .u8 0), (.int .u8 0), (.int .u8 0), (.int .u8 0), (.int .u8 0), (.int .u8 0), (.int .i64 0)] [(0, 18, (.t 10)), (18, 18, (.t 12))]),
    .op (some 14) none (.mv (.c (.int .i64 0)))]
def c13r2 : List AStm := [.op (some 15) none (.bin .lss (.t 14) (.c (.int .i64 2)))]
def c13r3 : List AStm := [.op (some 16) none (.ixv 2 18 (some 18) (.t 13) (.t 14)),
    .op (some 4) none (.alloc [(.int .i64 0), (.int .u8 0), (.int .u8 0), (.int .u8 0), (.int .u8 0), (.int .u8 0), (.int .u8 0), (.int .u8 0), (.int .u8 0), (.int .u8 0), (.int .u8 0), (.int .u8 0), (.int .u8 0), (.int .u8 0), (.int .u8 0), (.int .u8 0), (.int .u8 0), (.int .i64 0)]),
    .op none none (.store 18 (.t 4) (.t 16))]
def c13r4 : List AStm := [.op (some 17) none (.load (some 18) (.t 4)),
    .call (some 18) none (.c (.fn (.func 22) [] [])) [(.t 17)],
    .op (some 5) none (.mv (.t 18))]
def c13r5 : List AStm := [.op (some 19) none (.mv (.t 5)),
    .op (some 20) none (.bin .neq (.t 19) (.c (.int .i64 0)))]
def c13r6 : List AStm := [.op (some 21) none (.mv (.t 5)),
    .op (some 2) none (.mv (.t 21))]
def c13r7 : List AStm := [.op (some 22) none (.bin .add (.t 14) (.c (.int .i64 1))),
    .op (some 14) none (.mv (.t 22))]
def c13l8 : AC := .seq (.reg c13r2) (.seq (.cond (.t 15) (.skip) (.exit 0)) (.seq (.block 1 (.seq (.reg c13r3) (.seq (.reg c13r4) (.seq (.reg c13r5) (.cond (.t 20) (.seq (.reg c13r6) (.ret)) (.skip)))))) (.reg c13r7)))
def c13r9 : List AStm := [.op (some 23) none (.faddr 0 (.t 1)),
    .op (some 24) none (.faddr 0 (.t 23)),
    .op (some 25) none (.load none (.t 24)),
    .op (some 26) none (.faddr 18 (.t 1)),
    .op (some 27) none (.faddr 0 (.t 26)),
    .op (some 28) none (.load none (.t 27)),
    .op (some 29) none (.bin .neq (.t 25) (.t 28))]
def c13r10 : List AStm := [.op (some 2) none (.mv (.c (.int .i64 4)))]
def c13r11 : List AStm := [.op (some 30) none (.faddr 36 (.t 1)),
    .op (some 31) none (.load (some 2) (.t 30)),
    .op (some 32) none (.faddr 38 (.t 1)),
    .op (some 33) none (.load (some 2) (.t 32)),
    .op (some 34) none (.build (List.replicate 4 (.int .i64 0)) [(0, 2, (.t 31)), (2, 2, (.t 33))]),
    .op (some 35) none (.mv (.c (.int .i64 0)))]
def c13r12 : List AStm := [.op (some 36) none (.bin .lss (.t 35) (.c (.int .i64 2)))]
def c13r13 : List AStm := [.op (some 37) none (.ixv 2 2 (some 2) (.t 34) (.t 35)),
    .op (some 7) none (.alloc [(.int .i64 0), (.int .i64 0)]),
    .op none none (.store 2 (.t 7) (.t 37))]
def c13r14 : List AStm := [.op (some 38) none (.load (some 2) (.t 7)),
    .call (some 39) none (.c (.fn (.func 48) [] [])) [(.t 38)],
    .op (some 8) none (.mv (.t 39))]
def c13r15 : List AStm := [.op (some 40) none (.mv (.t 8)),
    .op (some 41) none (.bin .neq (.t 40) (.c (.int .i64 0)))]
def c13r16 : List AStm := [.op (some 42) none (.mv (.t 8)),
    .op (some 2) none (.mv (.t 42))]
def c13r17 : List AStm := [.op (some 43) none (.bin .add (.t 35) (.c (.int .i64 1))),
    .op (some 35) none (.mv (.t 43))]
def c13l18 : AC := .seq (.reg c13r12) (.seq (.cond (.t 36) (.skip) (.exit 2)) (.seq (.block 3 (.seq (.reg c13r13) (.seq (.reg c13r14) (.seq (.reg c13r15) (.cond (.t 41) (.seq (.reg c13r16) (.ret)) (.skip)))))) (.reg c13r17)))
def c13r19 : List AStm := [.op (some 45) none (.faddr 40 (.t 1)),
    .op (some 46) none (.load none (.t 45)),
    .op (some 47) none (.bin .lss (.t 46) (.c (.int .i64 (-1)))),
    .op (some 48) none (.mv (.t 47)),
    .op (some 49) (some (48, false)) (.faddr 40 (.t 1)),
    .op (some 50) (some (48, false)) (.load none (.t 49)),
    .op (some 51) (some (48, false)) (.bin .gtr (.t 50) (.c (.int .i64 255))),
    .op (some 52) none (.pick (.t 48) (.c (.bool true)) (.t 51)),
    .op (some 44) none (.mv (.t 52))]
def c13r20 : List AStm := [.op (some 2) none (.mv (.c (.int .i64 1)))]
def c13r21 : List AStm := [.op (some 54) none (.faddr 41 (.t 1)),
    .op (some 55) none (.load none (.t 54)),
    .op (some 56) none (.bin .lss (.t 55) (.c (.int .i64 (-1)))),
    .op (some 57) none (.mv (.t 56)),
    .op (some 58) (some (57, false)) (.faddr 41 (.t 1)),
    .op (some 59) (some (57, false)) (.load none (.t 58)),
    .op (some 60) (some (57, false)) (.bin .gtr (.t 59) (.c (.int .i64 63))),
    .op (some 61) none (.pick (.t 57) (.c (.bool true)) (.t 60)),
    .op (some 53) none (.mv (.t 61))]
def c13r22 : List AStm := [.op (some 2) none (.mv (.c (.int .i64 14)))]
def c13r23 : List AStm := [.op (some 63) none (.faddr 42 (.t 1)),
    .op (some 64) none (.load none (.t 63)),
    .call (some 65) none (.c (.fn (.func 49) [] [])) [(.t 64)],
    .op (some 66) none (.un .not (.t 65)),
    .op (some 62) none (.mv (.t 66))]
def c13r24 : List AStm := [.op (some 2) none (.mv (.c (.int .i64 11)))]
def c13r25 : List AStm := [.op (some 2) none (.mv (.c (.int .i64 0)))]
def c13 : CF := ⟨.seq (.reg c13r0) (.seq (.seq (.reg c13r1) (.block 0 (.loop c13l8))) (.seq (.seq (.reg c13r9) (.cond (.t 29) (.seq (.reg c13r10) (.ret)) (.skip))) (.seq (.seq (.reg c13r11) (.block 2 (.loop c13l18))) (.seq (.block 4 (.seq (.reg c13r19) (.cond (.t 44) (.seq (.reg c13r20) (.ret)) (.seq (.reg c13r21) (.cond (.t 53) (.seq (.reg c13r22) (.ret)) (.seq (.reg c13r23) (.cond (.t 62) (.seq (.reg c13r24) (.ret)) (.skip)))))))) (.seq (.reg c13r25) (.ret)))))), [.tmp 2], 67⟩
theorem cf13 : cfun Try.prog 13 = some c13 := by kernel_rfl

/-! ### weighbridge/rule.Matches, params 2 -/
def c8r0 : List AStm := [.op (some 2) none (.box (.t 0)),
    .op (some 3) none (.box (.t 1)),
    .op (some 4) none (.mv (.c (.bool false)))]
def c8r1 : List AStm := [.op (some 6) none (.load (some 43) (.t 2)),
    .call (some 7) none (.c (.fn (.func 13) [] [])) [(.t 6)],
    .op (some 8) none (.bin .neq (.t 7) (.c (.int .i64 0))),
    .op (some 9) none (.mv (.t 8)),
    .op (some 10) (some (9, false)) (.faddr 0 (.t 2)),
    .op (some 11) (some (9, false)) (.load (some 18) (.t 10)),
    .op (some 12) (some (9, false)) (.faddr 0 (.t 3)),
    .op (some 13) (some (9, false)) (.load none (.t 12)),
    .op (some 14) (some (9, false)) (.faddr 1 (.t 3)),
    .op (some 15) (some (9, false)) (.load (some 16) (.t 14)),
    .call (some 16) (some (9, false)) (.c (.fn (.func 27) [] [])) [(.t 11), (.t 13), (.t 15)],
    .op (some 17) (some (9, false)) (.un .not (.t 16)),
    .op (some 18) none (.pick (.t 9) (.c (.bool true)) (.t 17)),
    .op (some 19) none (.mv (.t 18)),
    .op (some 20) (some (19, false)) (.faddr 18 (.t 2)),
    .op (some 21) (some (19, false)) (.load (some 18) (.t 20)),
    .op (some 22) (some (19, false)) (.faddr 0 (.t 3)),
    .op (some 23) (some (19, false)) (.load none (.t 22)),
    .op (some 24) (some (19, false)) (.faddr 17 (.t 3)),
    .op (some 25) (some (19, false)) (.load (some 16) (.t 24)),
    .call (some 26) (some (19, false)) (.c (.fn (.func 27) [] [])) [(.t 21), (.t 23), (.t 25)],
    .op (some 27) (some (19, false)) (.un .not (.t 26)),
    .op (some 28) none (.pick (.t 19) (.c (.bool true)) (.t 27))]
def c8r2 : List AStm := [.op (some 4) none (.mv (.c (.bool false)))]
def c8r3 : List AStm := [.op (some 29) none (.mkfn (.func 34) [] [(.t 3)]),
    .op (some 5) none (.mv (.t 29))]
def c8r4 : List AStm := [.op (some 30) none (.mv (.t 5)),
    .op (some 31) none (.faddr 36 (.t 2)),
    .op (some 32) none (.load (some 2) (.t 31)),
    .op (some 33) none (.faddr 36 (.t 3)),
    .op (some 34) none (.load none (.t 33)),
    .call (some 35) none (.t 30) [(.t 32), (.t 34)],
    .op (some 36) none (.mv (.t 35)),
    .op (some 37) (some (36, true)) (.mv (.t 5)),
    .op (some 38) (some (36, true)) (.faddr 38 (.t 2)),
    .op (some 39) (some (36, true)) (.load (some 2) (.t 38)),
    .op (some 40) (some (36, true)) (.faddr 37 (.t 3)),
    .op (some 41) (some (36, true)) (.load none (.t 40)),
    .call (some 42) (some (36, true)) (.t 37) [(.t 39), (.t 41)],
    .op (some 43) none (.pick (.t 36) (.t 42) (.c (.bool false))),
    .op (some 44) none (.mv (.t 43)),
    .op (some 45) (some (44, true)) (.faddr 40 (.t 2)),
    .op (some 46) (some (44, true)) (.load none (.t 45)),
    .op (some 47) (some (44, true)) (.faddr 33 (.t 3)),
    .op (some 48) (some (44, true)) (.load none (.t 47)),
    .call (some 49) (some (44, true)) (.c (.fn (.func 37) [] [])) [(.t 46), (.t 48)],
    .op (some 50) none (.pick (.t 44) (.t 49) (.c (.bool false))),
    .op (some 51) none (.mv (.t 50)),
    .op (some 52) (some (51, true)) (.faddr 41 (.t 2)),
    .op (some 53) (some (51, true)) (.load none (.t 52)),
    .op (some 54) (some (51, true)) (.faddr 34 (.t 3)),
    .op (some 55) (some (51, true)) (.load none (.t 54)),
    .call (some 56) (some (51, true)) (.c (.fn (.func 37) [] [])) [(.t 53), (.t 55)],
    .op (some 57) none (.pick (.t 51) (.t 56) (.c (.bool false))),
    .op (some 4) none (.mv (.t 57))]
def c8 : CF := ⟨.seq (.reg c8r0) (.seq (.seq (.reg c8r1) (.cond (.t 28) (.seq (.reg c8r2) (.ret)) (.skip))) (.seq (.reg c8r3) (.seq (.reg c8r4) (.ret)))), [.tmp 4], 58⟩
theorem cf8 : cfun Try.prog 8 = some c8 := by kernel_rfl

/-! ### weighbridge/rule.Matches$1, params 2 -/
def c34r0 : List AStm := [.op (some 3) none (.box (.t 0)),
    .op (some 5) none (.mv (.c (.bool false)))]
def c34r1 : List AStm := []
def c34r2 : List AStm := [.op (some 6) none (.load (some 2) (.t 3)),
    .callG (some 7) none (.c (.fn (.func 35) [] [])) [],
    .op (some 8) none (.eqa false [.ki, .ki] (.t 6) (.t 7)),
    .op (some 9) none (.mv (.t 8)),
    .op (some 10) (some (9, false)) (.faddr 35 (.t 2)),
    .op (some 11) (some (9, false)) (.load none (.t 10)),
    .op (some 12) (some (9, false)) (.mv (.t 11)),
    .op (some 13) (some (12, true)) (.load (some 2) (.t 3)),
    .op (some 14) (some (12, true)) (.mv (.t 1)),
    .call (some 15) (some (12, true)) (.c (.fn (.func 36) [] [])) [(.t 13), (.t 14)],
    .op (some 16) (some (9, false)) (.pick (.t 12) (.t 15) (.c (.bool false))),
    .op (some 17) none (.pick (.t 9) (.c (.bool true)) (.t 16)),
    .op (some 5) none (.mv (.t 17))]
def c34 : CF := ⟨.seq (.reg c34r0) (.seq (.dreg c34r1 c34r2) (.ret)), [.tmp 5], 18⟩
theorem cf34 : cfun Try.prog 34 = some c34 := by kernel_rfl

/-! ### weighbridge/prefix.All, params 1 -/
def c33r0 : List AStm := [.op (some 2) none (.alloc [(.int .i64 0), (.int .u8 0), (.int .u8 0), (.int .u8 0), (.int .u8 0), (.int .u8 0), (.int .u8 0), (.int .u8 0), (.int .u8 0), (.int .u8 0), (.int .u8 0), (.int .u8 0), (.int .u8 0), (.int .u8 0), (.int .u8 0), (.int .u8 0), (.int .u8 0), (.int .i64 0)])]
def c33r1 : List AStm := [.op (some 3) none (.mv (.t 0)),
    .op (some 4) none (.build [(.int .i64 0), (.int .u8 0), (.int .u8 0), (.int .u8 0), (.int .u8 0), (.int .u8 0), (.int .u8 0), (.int .u8 0), (.int .u8 0), (.int .u8 0), (.int .u8 0), (.int .u8 0), (.int .u8 0), (.int .u8 0), (.int .u8 0), (.int .u8 0), (.int .u8 0), (.int .i64 0)] [(0, 1, (.t 3))]),
    .op none none (.store 18 (.t 2) (.t 4))]
def c33 : CF := ⟨.seq (.reg c33r0) (.seq (.reg c33r1) (.ret)), [.cell 2 (some 18)], 5⟩
theorem cf33 : cfun Try.prog 33 = some c33 := by kernel_rfl

/-! ### weighbridge/rule.Any, params 2 -/
def c16r0 : List AStm := [.op (some 4) none (.alloc [(.int .i64 0), (.int .u8 0), (.int .u8 0), (.int .u8 0), (.int .u8 0), (.int .u8 0), (.int .u8 0), (.int .u8 0), (.int .u8 0), (.int .u8 0), (.int .u8 0), (.int .u8 0), (.int .u8 0), (.int .u8 0), (.int .u8 0), (.int .u8 0), (.int .u8 0), (.int .i64 0), (.int .i64 0), (.int .u8 0), (.int .u8 0), (.int .u8 0), (.int .u8 0), (.int .u8 0), (.int .u8 0), (.int .u8 0), (.int .u8 0), (.int .u8 0), (.int .u8 0), (.int .u8 0), (.int .u8 0), (.int .u8 0), (.int .u8 0), (.int .u8 0), (.int .u8 0), (.int .i64 0), (.int .i64 0), (.int .i64 0), (.int .i64 0), (.int .i64 0), (.int .i64 0), (.int .i64 0), (.int .i64 0)])]
def c16r1 : List AStm := [.op (some 5) none (.mv (.t 0)),
    .call (some 6) none (.c (.fn (.func 33) [] [])) [(.t 5)],
    .op (some 7) none (.mv (.t 0)),
    .call (some 8) none (.c (.fn (.func 33) [] [])) [(.t 7)],
    .call (some 9) none (.c (.fn (.func 35) [] [])) [],
    .call (some 10) none (.c (.fn (.func 35) [] [])) [],
    .op (some 11) none (.mv (.t 1)),
    .op (some 12) none (.build [(.int .i64 0), (.int .u8 0), (.int .u8 0), (.int .u8 0), (.int .u8 0), (.int .u8 0), (.int .u8 0), (.int .u8 0), (.int .u8 0), (.int .u8 0), (.int .u8 0), (.int .u8 0), (.int .u8 0), (.int .u8 0), (.int .u8 0), (.int .u8 0), (.int .u8 0), (.int .i64 0), (.int .i64 0), (.int .u8 0), (.int .u8 0), (.int .u8 0), (.int .u8 0), (.int .u8 0), (.int .u8 0), (.int .u8 0), (.int .u8 0), (.int .u8 0), (.int .u8 0), (.int .u8 0), (.int .u8 0), (.int .u8 0), (.int .u8 0), (.int .u8 0), (.int .u8 0), (.int .i64 0), (.int .i64 0), (.int .i64 0), (.int .i64 0), (.int .i64 0), (.int .i64 0), (.int .i64 0), (.int .i64 0)] [(0, 18, (.t 6)), (18, 18, (.t 8)), (36, 2, (.t 9)), (38, 2, (.t 10)), (40, 1, (.c (.int .i64 (-1)))), (41, 1, (.c (.int .i64 (-1)))), (42, 1, (.t 11))]),
    .op none none (.store 43 (.t 4) (.t 12))]
def c16 : CF := ⟨.seq (.reg c16r0) (.seq (.reg c16r1) (.ret)), [.cell 4 (some 43)], 13⟩
theorem cf16 : cfun Try.prog 16 = some c16 := by kernel_rfl



/-! ### Rules -/
structure Ru where
  sv : Int
  sa : List UInt8
  sn : Int
  dv : Int
  da : List UInt8
  dn : Int
  slo : Int
  shi : Int
  dlo : Int
  dhi : Int
  proto : Int
  dscp : Int
  cls : Int
structure Ru.Ok (r : Ru) : Prop where
  s : r.sa.length = 16
  d : r.da.length = 16
def ruT (r : Ru) : List D := [.int .i64 r.slo, .int .i64 r.shi, .int .i64 r.dlo, .int .i64 r.dhi, .int .i64 r.proto, .int .i64 r.dscp, .int .i64 r.cls]
def ru (r : Ru) : List D := pc r.sv r.sa r.sn ++ (pc r.dv r.da r.dn ++ ruT r)
section
variable {r : Ru} (ok : r.Ok)
include ok
theorem ru_len : (ru r).length = 43 := by simp [ru, ruT, pc_len ok.s, pc_len ok.d]
theorem ru_one : (ru r).all D.one = true := by
  simp only [ru, List.all_append, pc_one, ruT]; rfl
theorem ru_take : (ru r).take 43 = ru r := List.take_of_length_le (by rw [ru_len ok]; omega)
theorem ru_0 : (ru r)[0]? = some (.int .i64 r.sv) := rfl
theorem ru_s : (ru r).take 18 = pc r.sv r.sa r.sn := by rw [ru, List.take_append_of_le_length (by rw [pc_len ok.s]; omega), pc_take ok.s]
theorem ru_d18 : (ru r).drop 18 = pc r.dv r.da r.dn ++ ruT r := by rw [ru, List.drop_append_of_le_length (by rw [pc_len ok.s]; omega), List.drop_of_length_le (by rw [pc_len ok.s]; omega), List.nil_append]
theorem ru_d : ((ru r).drop 18).take 18 = pc r.dv r.da r.dn := by rw [ru_d18 ok, List.take_append_of_le_length (by rw [pc_len ok.d]; omega), pc_take ok.d]
theorem ru_18 : ((ru r).drop 18)[0]? = some (.int .i64 r.dv) := by rw [ru_d18 ok]; rfl
theorem ru_l18 : ((ru r).drop 18).length = 25 := by rw [List.length_drop, ru_len ok]
theorem ru_d36 : (ru r).drop 36 = ruT r := by
  rw [show 36 = 18 + 18 from rfl, ← List.drop_drop, ru_d18 ok, List.drop_append_of_le_length (by rw [pc_len ok.d]; omega), List.drop_of_length_le (by rw [pc_len ok.d]; omega), List.nil_append]
theorem ru_d38 : (ru r).drop 38 = (ruT r).drop 2 := by rw [show 38 = 36 + 2 from rfl, ← List.drop_drop, ru_d36 ok]
theorem ru_d40 : (ru r).drop 40 = (ruT r).drop 4 := by rw [show 40 = 36 + 4 from rfl, ← List.drop_drop, ru_d36 ok]
theorem ru_d41 : (ru r).drop 41 = (ruT r).drop 5 := by rw [show 41 = 36 + 5 from rfl, ← List.drop_drop, ru_d36 ok]
theorem ru_d42 : (ru r).drop 42 = (ruT r).drop 6 := by rw [show 42 = 36 + 6 from rfl, ← List.drop_drop, ru_d36 ok]
theorem ru_under (k : Nat) : underL k (ru r) = true := by simp [ru, ruT, underL, underD, under_app, pc_under]
end
def ruChk (r : Ru) : Int :=
  if ¬ checkF r.sv r.sa r.sn = 0 then checkF r.sv r.sa r.sn else if ¬ checkF r.dv r.da r.dn = 0 then checkF r.dv r.da r.dn else if ¬ r.sv = r.dv then 4 else
  if ¬ spanChk r.slo r.shi = 0 then spanChk r.slo r.shi else if ¬ spanChk r.dlo r.dhi = 0 then spanChk r.dlo r.dhi else
  if r.proto < -1 ∨ 255 < r.proto then 1 else if r.dscp < -1 ∨ 63 < r.dscp then 14 else if r.cls < 0 ∨ 16 ≤ r.cls then 11 else 0

theorem iscls_fc (h : Heap) (n : Int) : FC Try.prog 49 [.int .i64 n] h fun d h' => d = .bool (decide (0 ≤ n) && decide (n < 16)) ∧ h' = h := by
  refine FC.goes cf49 ?_; simp only [c49]; simp only [List.length_cons, List.length_nil, Nat.reduceAdd, Nat.reduceSub, List.replicate_succ, List.replicate_zero, List.cons_append, List.nil_append]
  by_cases h0 : 0 ≤ n
  · simp (disch := first | omega | (simp only [List.length_append, List.length_cons, List.length_nil]; omega)) only [c49r0, c49r1, h0, go_sem, fill_c, ↓reduceIte, reduceCtorEq, Nat.reduceAdd, Nat.reduceSub, Nat.reducePow, Nat.reduceMul, Nat.reduceEqDiff, Nat.reduceLT, Nat.reduceLeDiff, Int.reduceToNat, Int.reduceLT, Int.reduceLE, Int.reduceEq, Int.reduceNeg, Int.reduceAdd, Int.reduceSub, Int.reduceMul]
    exact FinOk.all ⟨rfl, rfl⟩
  · simp (disch := first | omega | (simp only [List.length_append, List.length_cons, List.length_nil]; omega)) only [c49r0, c49r1, h0, Bool.false_and, go_sem, fill_c, ↓reduceIte, reduceCtorEq, Nat.reduceAdd, Nat.reduceSub, Nat.reducePow, Nat.reduceMul, Nat.reduceEqDiff, Nat.reduceLT, Nat.reduceLeDiff, Int.reduceToNat, Int.reduceLT, Int.reduceLE, Int.reduceEq, Int.reduceNeg, Int.reduceAdd, Int.reduceSub, Int.reduceMul]
    exact FinOk.all ⟨rfl, rfl⟩
theorem asked_fc (h : Heap) (w n : Int) : FC Try.prog 37 [.int .i64 w, .int .i64 n] h fun d h' => d = .bool (decide (w = -1) || decide (w = n)) ∧ h' = h := by
  refine FC.goes cf37 ?_; simp only [c37]; simp only [List.length_cons, List.length_nil, Nat.reduceAdd, Nat.reduceSub, List.replicate_succ, List.replicate_zero, List.cons_append, List.nil_append]
  by_cases h0 : w = -1
  · have e : decide (w = -1) = true := decide_eq_true h0
    simp (disch := first | omega | (simp only [List.length_append, List.length_cons, List.length_nil]; omega)) only [c37r0, c37r1, e, Bool.true_or, go_sem, fill_c, ↓reduceIte, reduceCtorEq, Nat.reduceAdd, Nat.reduceSub, Nat.reducePow, Nat.reduceMul, Nat.reduceEqDiff, Nat.reduceLT, Nat.reduceLeDiff, Int.reduceToNat, Int.reduceLT, Int.reduceLE, Int.reduceEq, Int.reduceNeg, Int.reduceAdd, Int.reduceSub, Int.reduceMul]
    exact FinOk.all ⟨rfl, rfl⟩
  · simp (disch := first | omega | (simp only [List.length_append, List.length_cons, List.length_nil]; omega)) only [c37r0, c37r1, h0, Bool.false_or, go_sem, fill_c, ↓reduceIte, reduceCtorEq, Nat.reduceAdd, Nat.reduceSub, Nat.reducePow, Nat.reduceMul, Nat.reduceEqDiff, Nat.reduceLT, Nat.reduceLeDiff, Int.reduceToNat, Int.reduceLT, Int.reduceLE, Int.reduceEq, Int.reduceNeg, Int.reduceAdd, Int.reduceSub, Int.reduceMul]
    exact FinOk.all ⟨rfl, rfl⟩
/-- Two prefixes beside one another. -/
theorem two_fill {v n w m : Int} {a b : List UInt8} (ha : a.length = 16) (hb : b.length = 16) :
    fillD (pc 0 (zeros 16) 0 ++ pc 0 (zeros 16) 0) [(0, 18, .agg (pc v a n)), (18, 18, .agg (pc w b m))] = some (pc v a n ++ pc w b m) := by
  have hz := pc_len (v := 0) (n := 0) (zeros_len 16)
  have l1 := pc_len (v := v) (n := n) ha
  have l2 := pc_len (v := w) (n := m) hb
  rw [fillD, if_pos ⟨by simpa [laid] using pc_one, by simpa [vcells] using l1, by rw [List.length_append]; omega⟩]
  have e1 : splice (pc 0 (zeros 16) 0 ++ pc 0 (zeros 16) 0) 0 (vcells (.agg (pc v a n))) = pc v a n ++ pc 0 (zeros 16) 0 := by
    rw [splice_eq _ _ _ (by simp only [vcells, List.length_append]; omega)]
    simp only [vcells, l1, List.take_zero, List.nil_append, Nat.zero_add]
    rw [List.drop_append_of_le_length (by omega), List.drop_of_length_le (by omega), List.nil_append]
  rw [e1, fillD, if_pos ⟨by simpa [laid] using pc_one, by simpa [vcells] using l2, by rw [List.length_append]; omega⟩]
  have e2 : splice (pc v a n ++ pc 0 (zeros 16) 0) 18 (vcells (.agg (pc w b m))) = pc v a n ++ pc w b m := by
    rw [splice_eq _ _ _ (by simp only [vcells, List.length_append]; omega)]
    simp only [vcells, l2]
    rw [List.take_append_of_le_length (by omega), List.take_of_length_le (by omega), List.drop_of_length_le (by simp only [List.length_append]; omega), List.append_nil]
  rw [e2]; rfl

theorem four_fill {a b c d : Int} : fillD (List.replicate 4 (.int .i64 0)) [(0, 2, .agg [.int .i64 a, .int .i64 b]), (2, 2, .agg [.int .i64 c, .int .i64 d])] = some [.int .i64 a, .int .i64 b, .int .i64 c, .int .i64 d] := rfl
theorem rcheckP_fc (h : Heap) (r : Ru) (ok : r.Ok) : FC Try.prog 13 [.agg (ru r)] h fun d h' => d = .int .i64 (ruChk r) ∧ h' = h := by
  have ec := pcheck_fc
  simp only [prefD_pc] at ec
  have os := ok.s
  have od := ok.d
  have z1 := zeros_len 16
  have zz : pc 0 (zeros 16) 0 ++ pc 0 (zeros 16) 0 = [.int .i64 0, .int .u8 0, .int .u8 0, .int .u8 0, .int .u8 0, .int .u8 0, .int .u8 0, .int .u8 0, .int .u8 0, .int .u8 0, .int .u8 0, .int .u8 0, .int .u8 0, .int .u8 0, .int .u8 0, .int .u8 0, .int .u8 0, .int .i64 0,
    .int .i64 0, .int .u8 0, .int .u8 0, .int .u8 0, .int .u8 0, .int .u8 0, .int .u8 0, .int .u8 0, .int .u8 0, .int .u8 0, .int .u8 0, .int .u8 0, .int .u8 0, .int .u8 0, .int .u8 0, .int .u8 0, .int .u8 0, .int .i64 0] := rfl
  have ov1 := pc_over (v := r.sv) (n := r.sn) (w := 0) (m := 0) z1 ok.s
  have ov2 := pc_over (v := r.dv) (n := r.dn) (w := 0) (m := 0) z1 ok.d
  rw [pc_zero] at ov1 ov2
  have l1 := pc_len (v := r.sv) (n := r.sn) ok.s
  have l2 := pc_len (v := r.dv) (n := r.dn) ok.d
  have ll : (pc r.sv r.sa r.sn ++ pc r.dv r.da r.dn).length = 36 := by rw [List.length_append]; omega
  have t1 : List.take 18 (pc r.sv r.sa r.sn ++ pc r.dv r.da r.dn) = pc r.sv r.sa r.sn := by rw [List.take_append_of_le_length (by omega), pc_take ok.s]
  have t2 : List.drop 18 (pc r.sv r.sa r.sn ++ pc r.dv r.da r.dn) = pc r.dv r.da r.dn := by rw [List.drop_append_of_le_length (by omega), List.drop_of_length_le (by omega), List.nil_append]
  refine FC.goes cf13 ?_; simp only [c13]; simp only [List.length_cons, List.length_nil, Nat.reduceAdd, Nat.reduceSub, List.replicate_succ, List.replicate_zero, List.cons_append, List.nil_append]
  simp only [c13r0, c13r1, ← zz]
  simp (disch := first | omega | (simp only [List.length_append, List.length_cons, List.length_nil]; omega)) only [ru_len, ru_one, ok, ru_s, ru_d, ru_l18, two_fill, go_sem, ↓reduceIte, reduceCtorEq, Nat.reduceAdd, Nat.reduceSub, Nat.reducePow, Nat.reduceMul, Nat.reduceEqDiff, Nat.reduceLT, Nat.reduceLeDiff, Int.reduceToNat, Int.reduceLT, Int.reduceLE, Int.reduceEq, Int.reduceNeg, Int.reduceAdd, Int.reduceSub, Int.reduceMul]
  refine loop_to 2 (fun k st => (0 < k → checkF r.sv r.sa r.sn = 0) ∧ (1 < k → checkF r.dv r.da r.dn = 0) ∧ ∃ (L : Heap) (j : Nat → D), st = ⟨(j 0 :: .ref h.length 0 :: .int .i64 0 :: j 3 :: j 4 :: j 5 :: j 6 :: j 7 :: j 8 :: j 9 :: j 10 :: j 11 :: j 12 :: .agg (pc r.sv r.sa r.sn ++ pc r.dv r.da r.dn) :: .int .i64 (k : Int) :: j 15 :: j 16 :: j 17 :: j 18 :: j 19 :: j 20 :: j 21 :: j 22 :: j 23 :: j 24 :: j 25 :: j 26 :: j 27 :: j 28 :: j 29 :: j 30 :: j 31 :: j 32 :: j 33 :: j 34 :: j 35 :: j 36 :: j 37 :: j 38 :: j 39 :: j 40 :: j 41 :: j 42 :: j 43 :: j 44 :: j 45 :: j 46 :: j 47 :: j 48 :: j 49 :: j 50 :: j 51 :: j 52 :: j 53 :: j 54 :: j 55 :: j 56 :: j 57 :: j 58 :: j 59 :: j 60 :: j 61 :: j 62 :: j 63 :: j 64 :: j 65 :: j 66 :: []), h ++ .box (ru r) :: L⟩) ⟨by omega, by omega, [], junk rfl⟩ ?_
  rintro k st hk ⟨hk1, hk2, L, j, rfl⟩
  obtain rfl | rfl | rfl : k = 0 ∨ k = 1 ∨ k = 2 := by omega
  · simp (disch := first | omega | (simp only [List.length_append, List.length_cons, List.length_nil]; omega)) only [c13r0, c13r1, c13r2, c13r3, c13r4, c13r5, c13r6, c13r7, c13l8, c13r9, c13r10, c13r11, c13r12, c13r13, c13r14, c13r15, c13r16, c13r17, c13l18, c13r19, c13r20, c13r21, c13r22, c13r23, c13r24, c13r25, ll, t1, t2, l1, l2, pc_one, pc_take, os, od, ov1, go_sem, fill_c, ↓reduceIte, reduceCtorEq, Nat.reduceAdd, Nat.reduceSub, Nat.reducePow, Nat.reduceMul, Nat.reduceEqDiff, Nat.reduceLT, Nat.reduceLeDiff, Int.reduceToNat, Int.reduceLT, Int.reduceLE, Int.reduceEq, Int.reduceNeg, Int.reduceAdd, Int.reduceSub, Int.reduceMul]
    refine gfc_same (ec _ r.sv r.sn r.sa ok.s) ?_
    by_cases hc : checkF r.sv r.sa r.sn = 0
    · have e0 : decide (checkF r.sv r.sa r.sn = 0) = true := decide_eq_true hc
      simp (disch := first | omega | (simp only [List.length_append, List.length_cons, List.length_nil]; omega)) only [e0, go_sem, fill_c, ↓reduceIte, reduceCtorEq, Nat.reduceAdd, Nat.reduceSub, Nat.reducePow, Nat.reduceMul, Nat.reduceEqDiff, Nat.reduceLT, Nat.reduceLeDiff, Int.reduceToNat, Int.reduceLT, Int.reduceLE, Int.reduceEq, Int.reduceNeg, Int.reduceAdd, Int.reduceSub, Int.reduceMul]
      exact ⟨hc, _, junk rfl⟩
    · have e : ruChk r = checkF r.sv r.sa r.sn := by simp [ruChk, hc]
      rw [e]
      simp (disch := first | omega | (simp only [List.length_append, List.length_cons, List.length_nil]; omega)) only [hc, go_sem, fill_c, ↓reduceIte, reduceCtorEq, Nat.reduceAdd, Nat.reduceSub, Nat.reducePow, Nat.reduceMul, Nat.reduceEqDiff, Nat.reduceLT, Nat.reduceLeDiff, Int.reduceToNat, Int.reduceLT, Int.reduceLE, Int.reduceEq, Int.reduceNeg, Int.reduceAdd, Int.reduceSub, Int.reduceMul]
      exact FinOk.drop (.inl rfl) (by simp [underL, underD]) ⟨rfl, rfl⟩
  · have hs := hk1 (by omega)
    simp (disch := first | omega | (simp only [List.length_append, List.length_cons, List.length_nil]; omega)) only [c13r0, c13r1, c13r2, c13r3, c13r4, c13r5, c13r6, c13r7, c13l8, c13r9, c13r10, c13r11, c13r12, c13r13, c13r14, c13r15, c13r16, c13r17, c13l18, c13r19, c13r20, c13r21, c13r22, c13r23, c13r24, c13r25, ll, t1, t2, l1, l2, pc_one, pc_take, os, od, ov2, go_sem, fill_c, ↓reduceIte, reduceCtorEq, Nat.reduceAdd, Nat.reduceSub, Nat.reducePow, Nat.reduceMul, Nat.reduceEqDiff, Nat.reduceLT, Nat.reduceLeDiff, Int.reduceToNat, Int.reduceLT, Int.reduceLE, Int.reduceEq, Int.reduceNeg, Int.reduceAdd, Int.reduceSub, Int.reduceMul]
    refine gfc_same (ec _ r.dv r.dn r.da ok.d) ?_
    by_cases hc : checkF r.dv r.da r.dn = 0
    · have e0 : decide (checkF r.dv r.da r.dn = 0) = true := decide_eq_true hc
      simp (disch := first | omega | (simp only [List.length_append, List.length_cons, List.length_nil]; omega)) only [e0, go_sem, fill_c, ↓reduceIte, reduceCtorEq, Nat.reduceAdd, Nat.reduceSub, Nat.reducePow, Nat.reduceMul, Nat.reduceEqDiff, Nat.reduceLT, Nat.reduceLeDiff, Int.reduceToNat, Int.reduceLT, Int.reduceLE, Int.reduceEq, Int.reduceNeg, Int.reduceAdd, Int.reduceSub, Int.reduceMul]
      exact ⟨hs, hc, _, junk rfl⟩
    · have e : ruChk r = checkF r.dv r.da r.dn := by simp [ruChk, hs, hc]
      rw [e]
      simp (disch := first | omega | (simp only [List.length_append, List.length_cons, List.length_nil]; omega)) only [hc, go_sem, fill_c, ↓reduceIte, reduceCtorEq, Nat.reduceAdd, Nat.reduceSub, Nat.reducePow, Nat.reduceMul, Nat.reduceEqDiff, Nat.reduceLT, Nat.reduceLeDiff, Int.reduceToNat, Int.reduceLT, Int.reduceLE, Int.reduceEq, Int.reduceNeg, Int.reduceAdd, Int.reduceSub, Int.reduceMul]
      exact FinOk.drop (.inl rfl) (by simp [underL, underD]) ⟨rfl, rfl⟩
  · have hs := hk1 (by omega)
    have hd := hk2 (by omega)
    skip
    simp (disch := first | omega | (simp only [List.length_append, List.length_cons, List.length_nil]; omega)) only [c13r0, c13r1, c13r2, c13r3, c13r4, c13r5, c13r6, c13r7, c13l8, c13r9, c13r10, c13r11, c13r12, c13r13, c13r14, c13r15, c13r16, c13r17, c13l18, c13r19, c13r20, c13r21, c13r22, c13r23, c13r24, c13r25, ru_0, ru_18, ok, go_sem, fill_c, ↓reduceIte, reduceCtorEq, Nat.reduceAdd, Nat.reduceSub, Nat.reducePow, Nat.reduceMul, Nat.reduceEqDiff, Nat.reduceLT, Nat.reduceLeDiff, Int.reduceToNat, Int.reduceLT, Int.reduceLE, Int.reduceEq, Int.reduceNeg, Int.reduceAdd, Int.reduceSub, Int.reduceMul]
    rcases Classical.em (¬ r.sv = r.dv) with hv | hv
    · have e : ruChk r = 4 := by simp [ruChk, hs, hd, hv]
      rw [e]
      simp (disch := first | omega | (simp only [List.length_append, List.length_cons, List.length_nil]; omega)) only [hv, go_sem, fill_c, ↓reduceIte, reduceCtorEq, Nat.reduceAdd, Nat.reduceSub, Nat.reducePow, Nat.reduceMul, Nat.reduceEqDiff, Nat.reduceLT, Nat.reduceLeDiff, Int.reduceToNat, Int.reduceLT, Int.reduceLE, Int.reduceEq, Int.reduceNeg, Int.reduceAdd, Int.reduceSub, Int.reduceMul]
      exact FinOk.drop (.inl rfl) (by simp [underL, underD]) ⟨rfl, rfl⟩
    replace hv := Classical.not_not.1 hv
    have e0 : decide (r.sv = r.dv) = true := decide_eq_true hv
    simp (disch := first | omega | (simp only [List.length_append, List.length_cons, List.length_nil]; omega)) only [four_fill, e0, ru_d36, ru_d38, ruT, ok, go_sem, ↓reduceIte, reduceCtorEq, Nat.reduceAdd, Nat.reduceSub, Nat.reducePow, Nat.reduceMul, Nat.reduceEqDiff, Nat.reduceLT, Nat.reduceLeDiff, Int.reduceToNat, Int.reduceLT, Int.reduceLE, Int.reduceEq, Int.reduceNeg, Int.reduceAdd, Int.reduceSub, Int.reduceMul]
    refine loop_to 2 (fun k st => (0 < k → spanChk r.slo r.shi = 0) ∧ (1 < k → spanChk r.dlo r.dhi = 0) ∧ ∃ (L : Heap) (j : Nat → D), st = ⟨(j 0 :: .ref h.length 0 :: .int .i64 0 :: j 3 :: j 4 :: j 5 :: j 6 :: j 7 :: j 8 :: j 9 :: j 10 :: j 11 :: j 12 :: j 13 :: j 14 :: j 15 :: j 16 :: j 17 :: j 18 :: j 19 :: j 20 :: j 21 :: j 22 :: j 23 :: j 24 :: j 25 :: j 26 :: j 27 :: j 28 :: j 29 :: j 30 :: j 31 :: j 32 :: j 33 :: .agg [.int .i64 r.slo, .int .i64 r.shi, .int .i64 r.dlo, .int .i64 r.dhi] :: .int .i64 (k : Int) :: j 36 :: j 37 :: j 38 :: j 39 :: j 40 :: j 41 :: j 42 :: j 43 :: j 44 :: j 45 :: j 46 :: j 47 :: j 48 :: j 49 :: j 50 :: j 51 :: j 52 :: j 53 :: j 54 :: j 55 :: j 56 :: j 57 :: j 58 :: j 59 :: j 60 :: j 61 :: j 62 :: j 63 :: j 64 :: j 65 :: j 66 :: []), h ++ .box (ru r) :: L⟩) ⟨by omega, by omega, L, junk rfl⟩ ?_
    rintro k st hk ⟨hk3, hk4, L, j, rfl⟩
    obtain rfl | rfl | rfl : k = 0 ∨ k = 1 ∨ k = 2 := by omega
    · simp (disch := first | omega | (simp only [List.length_append, List.length_cons, List.length_nil]; omega)) only [c13r0, c13r1, c13r2, c13r3, c13r4, c13r5, c13r6, c13r7, c13l8, c13r9, c13r10, c13r11, c13r12, c13r13, c13r14, c13r15, c13r16, c13r17, c13l18, c13r19, c13r20, c13r21, c13r22, c13r23, c13r24, c13r25, splice0, go_sem, fill_c, ↓reduceIte, reduceCtorEq, Nat.reduceAdd, Nat.reduceSub, Nat.reducePow, Nat.reduceMul, Nat.reduceEqDiff, Nat.reduceLT, Nat.reduceLeDiff, Int.reduceToNat, Int.reduceLT, Int.reduceLE, Int.reduceEq, Int.reduceNeg, Int.reduceAdd, Int.reduceSub, Int.reduceMul]
      refine gfc_same (scheck_fc _ r.slo r.shi) ?_
      by_cases hc : spanChk r.slo r.shi = 0
      · have e0 : decide (spanChk r.slo r.shi = 0) = true := decide_eq_true hc
        simp (disch := first | omega | (simp only [List.length_append, List.length_cons, List.length_nil]; omega)) only [e0, go_sem, fill_c, ↓reduceIte, reduceCtorEq, Nat.reduceAdd, Nat.reduceSub, Nat.reducePow, Nat.reduceMul, Nat.reduceEqDiff, Nat.reduceLT, Nat.reduceLeDiff, Int.reduceToNat, Int.reduceLT, Int.reduceLE, Int.reduceEq, Int.reduceNeg, Int.reduceAdd, Int.reduceSub, Int.reduceMul]
        exact ⟨hc, _, junk rfl⟩
      · have e : ruChk r = spanChk r.slo r.shi := by rw [ruChk, if_neg (fun h => h hs), if_neg (fun h => h hd), if_neg (fun h => h hv), if_pos hc]
        rw [e]
        simp (disch := first | omega | (simp only [List.length_append, List.length_cons, List.length_nil]; omega)) only [hc, go_sem, fill_c, ↓reduceIte, reduceCtorEq, Nat.reduceAdd, Nat.reduceSub, Nat.reducePow, Nat.reduceMul, Nat.reduceEqDiff, Nat.reduceLT, Nat.reduceLeDiff, Int.reduceToNat, Int.reduceLT, Int.reduceLE, Int.reduceEq, Int.reduceNeg, Int.reduceAdd, Int.reduceSub, Int.reduceMul]
        exact FinOk.drop (.inl rfl) (by simp [underL, underD]) ⟨rfl, rfl⟩
    · have h3 := hk3 (by omega)
      simp (disch := first | omega | (simp only [List.length_append, List.length_cons, List.length_nil]; omega)) only [c13r0, c13r1, c13r2, c13r3, c13r4, c13r5, c13r6, c13r7, c13l8, c13r9, c13r10, c13r11, c13r12, c13r13, c13r14, c13r15, c13r16, c13r17, c13l18, c13r19, c13r20, c13r21, c13r22, c13r23, c13r24, c13r25, splice0, go_sem, fill_c, ↓reduceIte, reduceCtorEq, Nat.reduceAdd, Nat.reduceSub, Nat.reducePow, Nat.reduceMul, Nat.reduceEqDiff, Nat.reduceLT, Nat.reduceLeDiff, Int.reduceToNat, Int.reduceLT, Int.reduceLE, Int.reduceEq, Int.reduceNeg, Int.reduceAdd, Int.reduceSub, Int.reduceMul]
      refine gfc_same (scheck_fc _ r.dlo r.dhi) ?_
      by_cases hc : spanChk r.dlo r.dhi = 0
      · have e0 : decide (spanChk r.dlo r.dhi = 0) = true := decide_eq_true hc
        simp (disch := first | omega | (simp only [List.length_append, List.length_cons, List.length_nil]; omega)) only [e0, go_sem, fill_c, ↓reduceIte, reduceCtorEq, Nat.reduceAdd, Nat.reduceSub, Nat.reducePow, Nat.reduceMul, Nat.reduceEqDiff, Nat.reduceLT, Nat.reduceLeDiff, Int.reduceToNat, Int.reduceLT, Int.reduceLE, Int.reduceEq, Int.reduceNeg, Int.reduceAdd, Int.reduceSub, Int.reduceMul]
        exact ⟨h3, hc, _, junk rfl⟩
      · have e : ruChk r = spanChk r.dlo r.dhi := by rw [ruChk, if_neg (fun h => h hs), if_neg (fun h => h hd), if_neg (fun h => h hv), if_neg (fun h => h h3), if_pos hc]
        rw [e]
        simp (disch := first | omega | (simp only [List.length_append, List.length_cons, List.length_nil]; omega)) only [hc, go_sem, fill_c, ↓reduceIte, reduceCtorEq, Nat.reduceAdd, Nat.reduceSub, Nat.reducePow, Nat.reduceMul, Nat.reduceEqDiff, Nat.reduceLT, Nat.reduceLeDiff, Int.reduceToNat, Int.reduceLT, Int.reduceLE, Int.reduceEq, Int.reduceNeg, Int.reduceAdd, Int.reduceSub, Int.reduceMul]
        exact FinOk.drop (.inl rfl) (by simp [underL, underD]) ⟨rfl, rfl⟩
    · have h3 := hk3 (by omega)
      have h4 := hk4 (by omega)
      have e : ruChk r = if r.proto < -1 ∨ 255 < r.proto then 1 else if r.dscp < -1 ∨ 63 < r.dscp then 14 else if r.cls < 0 ∨ 16 ≤ r.cls then 11 else 0 := by rw [ruChk, if_neg (fun h => h hs), if_neg (fun h => h hd), if_neg (fun h => h hv), if_neg (fun h => h h3), if_neg (fun h => h h4)]
      rw [e]
      by_cases p1 : r.proto < -1
      · rw [if_pos (.inl p1)]
        simp (disch := first | omega | (simp only [List.length_append, List.length_cons, List.length_nil]; omega)) only [c13r0, c13r1, c13r2, c13r3, c13r4, c13r5, c13r6, c13r7, c13l8, c13r9, c13r10, c13r11, c13r12, c13r13, c13r14, c13r15, c13r16, c13r17, c13l18, c13r19, c13r20, c13r21, c13r22, c13r23, c13r24, c13r25, ru_d40, ru_d41, ru_d42, ruT, ok, p1, go_sem, fill_c, ↓reduceIte, reduceCtorEq, Nat.reduceAdd, Nat.reduceSub, Nat.reducePow, Nat.reduceMul, Nat.reduceEqDiff, Nat.reduceLT, Nat.reduceLeDiff, Int.reduceToNat, Int.reduceLT, Int.reduceLE, Int.reduceEq, Int.reduceNeg, Int.reduceAdd, Int.reduceSub, Int.reduceMul]
        exact FinOk.drop (.inl rfl) (by simp [underL, underD]) ⟨rfl, rfl⟩
      by_cases p2 : 255 < r.proto
      · rw [if_pos (.inr p2)]
        simp (disch := first | omega | (simp only [List.length_append, List.length_cons, List.length_nil]; omega)) only [c13r0, c13r1, c13r2, c13r3, c13r4, c13r5, c13r6, c13r7, c13l8, c13r9, c13r10, c13r11, c13r12, c13r13, c13r14, c13r15, c13r16, c13r17, c13l18, c13r19, c13r20, c13r21, c13r22, c13r23, c13r24, c13r25, ru_d40, ru_d41, ru_d42, ruT, ok, p1, p2, go_sem, fill_c, ↓reduceIte, reduceCtorEq, Nat.reduceAdd, Nat.reduceSub, Nat.reducePow, Nat.reduceMul, Nat.reduceEqDiff, Nat.reduceLT, Nat.reduceLeDiff, Int.reduceToNat, Int.reduceLT, Int.reduceLE, Int.reduceEq, Int.reduceNeg, Int.reduceAdd, Int.reduceSub, Int.reduceMul]
        exact FinOk.drop (.inl rfl) (by simp [underL, underD]) ⟨rfl, rfl⟩
      rw [if_neg (by omega)]
      by_cases p3 : r.dscp < -1
      · rw [if_pos (.inl p3)]
        simp (disch := first | omega | (simp only [List.length_append, List.length_cons, List.length_nil]; omega)) only [c13r0, c13r1, c13r2, c13r3, c13r4, c13r5, c13r6, c13r7, c13l8, c13r9, c13r10, c13r11, c13r12, c13r13, c13r14, c13r15, c13r16, c13r17, c13l18, c13r19, c13r20, c13r21, c13r22, c13r23, c13r24, c13r25, ru_d40, ru_d41, ru_d42, ruT, ok, p1, p2, p3, go_sem, fill_c, ↓reduceIte, reduceCtorEq, Nat.reduceAdd, Nat.reduceSub, Nat.reducePow, Nat.reduceMul, Nat.reduceEqDiff, Nat.reduceLT, Nat.reduceLeDiff, Int.reduceToNat, Int.reduceLT, Int.reduceLE, Int.reduceEq, Int.reduceNeg, Int.reduceAdd, Int.reduceSub, Int.reduceMul]
        exact FinOk.drop (.inl rfl) (by simp [underL, underD]) ⟨rfl, rfl⟩
      by_cases p4 : 63 < r.dscp
      · rw [if_pos (.inr p4)]
        simp (disch := first | omega | (simp only [List.length_append, List.length_cons, List.length_nil]; omega)) only [c13r0, c13r1, c13r2, c13r3, c13r4, c13r5, c13r6, c13r7, c13l8, c13r9, c13r10, c13r11, c13r12, c13r13, c13r14, c13r15, c13r16, c13r17, c13l18, c13r19, c13r20, c13r21, c13r22, c13r23, c13r24, c13r25, ru_d40, ru_d41, ru_d42, ruT, ok, p1, p2, p3, p4, go_sem, fill_c, ↓reduceIte, reduceCtorEq, Nat.reduceAdd, Nat.reduceSub, Nat.reducePow, Nat.reduceMul, Nat.reduceEqDiff, Nat.reduceLT, Nat.reduceLeDiff, Int.reduceToNat, Int.reduceLT, Int.reduceLE, Int.reduceEq, Int.reduceNeg, Int.reduceAdd, Int.reduceSub, Int.reduceMul]
        exact FinOk.drop (.inl rfl) (by simp [underL, underD]) ⟨rfl, rfl⟩
      rw [if_neg (by omega)]
      simp (disch := first | omega | (simp only [List.length_append, List.length_cons, List.length_nil]; omega)) only [c13r0, c13r1, c13r2, c13r3, c13r4, c13r5, c13r6, c13r7, c13l8, c13r9, c13r10, c13r11, c13r12, c13r13, c13r14, c13r15, c13r16, c13r17, c13l18, c13r19, c13r20, c13r21, c13r22, c13r23, c13r24, c13r25, ru_d40, ru_d41, ru_d42, ruT, ok, p1, p2, p3, p4, go_sem, fill_c, ↓reduceIte, reduceCtorEq, Nat.reduceAdd, Nat.reduceSub, Nat.reducePow, Nat.reduceMul, Nat.reduceEqDiff, Nat.reduceLT, Nat.reduceLeDiff, Int.reduceToNat, Int.reduceLT, Int.reduceLE, Int.reduceEq, Int.reduceNeg, Int.reduceAdd, Int.reduceSub, Int.reduceMul]
      refine gfc_same (iscls_fc _ r.cls) ?_
      by_cases p5 : 0 ≤ r.cls ∧ r.cls < 16
      · rw [if_neg (by omega)]
        simp (disch := first | omega | (simp only [List.length_append, List.length_cons, List.length_nil]; omega)) only [p5.1, p5.2, go_sem, fill_c, ↓reduceIte, reduceCtorEq, Nat.reduceAdd, Nat.reduceSub, Nat.reducePow, Nat.reduceMul, Nat.reduceEqDiff, Nat.reduceLT, Nat.reduceLeDiff, Int.reduceToNat, Int.reduceLT, Int.reduceLE, Int.reduceEq, Int.reduceNeg, Int.reduceAdd, Int.reduceSub, Int.reduceMul]
        exact FinOk.drop (.inl rfl) (by simp [underL, underD]) ⟨rfl, rfl⟩
      · have e2 : (decide (0 ≤ r.cls) && decide (r.cls < 16)) = false := by rw [← Bool.decide_and]; exact decide_eq_false p5
        rw [if_pos (by omega), e2]
        simp (disch := first | omega | (simp only [List.length_append, List.length_cons, List.length_nil]; omega)) only [go_sem, fill_c, ↓reduceIte, reduceCtorEq, Nat.reduceAdd, Nat.reduceSub, Nat.reducePow, Nat.reduceMul, Nat.reduceEqDiff, Nat.reduceLT, Nat.reduceLeDiff, Int.reduceToNat, Int.reduceLT, Int.reduceLE, Int.reduceEq, Int.reduceNeg, Int.reduceAdd, Int.reduceSub, Int.reduceMul]
        exact FinOk.drop (.inl rfl) (by simp [underL, underD]) ⟨rfl, rfl⟩

/-! ### Keys -/
structure Ky where
  v : Int
  s : List UInt8
  d : List UInt8
  proto : Int
  dscp : Int
  ports : Bool
  sp : Int
  dp : Int
structure Ky.Ok (k : Ky) : Prop where
  s : k.s.length = 16
  d : k.d.length = 16
def kyT (k : Ky) : List D := [.int .i64 k.proto, .int .i64 k.dscp, .bool k.ports, .int .i64 k.sp, .int .i64 k.dp]
def ky (k : Ky) : List D := .int .i64 k.v :: (ofBytes k.s ++ (ofBytes k.d ++ kyT k))
section
variable {k : Ky} (kok : k.Ok)
include kok
theorem ky_len : (ky k).length = 38 := by simp [ky, kyT, ofBytes_length, kok.s, kok.d]
theorem ky_one : (ky k).all D.one = true := by
  simp only [ky, List.all_cons, List.all_append, ofBytes_one, kyT]; rfl
theorem ky_take : (ky k).take 38 = ky k := List.take_of_length_le (by rw [ky_len kok]; omega)
theorem ky_0 : (ky k)[0]? = some (.int .i64 k.v) := rfl
theorem ky_d1 : (ky k).drop 1 = ofBytes k.s ++ (ofBytes k.d ++ kyT k) := rfl
theorem ky_s : ((ky k).drop 1).take 16 = ofBytes k.s := by
  have h : (ofBytes k.s).length = 16 := by rw [ofBytes_length, kok.s]
  rw [ky_d1 kok, List.take_append_of_le_length (by omega), List.take_of_length_le (by omega)]
theorem ky_l1 : ((ky k).drop 1).length = 37 := by rw [List.length_drop, ky_len kok]
theorem ky_d17 : (ky k).drop 17 = ofBytes k.d ++ kyT k := by
  have h : (ofBytes k.s).length = 16 := by rw [ofBytes_length, kok.s]
  rw [show 17 = 1 + 16 from rfl, ← List.drop_drop, ky_d1 kok, List.drop_append_of_le_length (by omega), List.drop_of_length_le (by omega), List.nil_append]
theorem ky_d : ((ky k).drop 17).take 16 = ofBytes k.d := by
  have h : (ofBytes k.d).length = 16 := by rw [ofBytes_length, kok.d]
  rw [ky_d17 kok, List.take_append_of_le_length (by omega), List.take_of_length_le (by omega)]
theorem ky_l17 : ((ky k).drop 17).length = 21 := by rw [List.length_drop, ky_len kok]
theorem ky_d33 : (ky k).drop 33 = kyT k := by
  have h : (ofBytes k.d).length = 16 := by rw [ofBytes_length, kok.d]
  rw [show 33 = 17 + 16 from rfl, ← List.drop_drop, ky_d17 kok, List.drop_append_of_le_length (by omega), List.drop_of_length_le (by omega), List.nil_append]
theorem ky_d34 : (ky k).drop 34 = (kyT k).drop 1 := by rw [show 34 = 33 + 1 from rfl, ← List.drop_drop, ky_d33 kok]
theorem ky_d35 : (ky k).drop 35 = (kyT k).drop 2 := by rw [show 35 = 33 + 2 from rfl, ← List.drop_drop, ky_d33 kok]
theorem ky_d36 : (ky k).drop 36 = (kyT k).drop 3 := by rw [show 36 = 33 + 3 from rfl, ← List.drop_drop, ky_d33 kok]
theorem ky_d37 : (ky k).drop 37 = (kyT k).drop 4 := by rw [show 37 = 33 + 4 from rfl, ← List.drop_drop, ky_d33 kok]
theorem ky_under (n : Nat) : underL n (ky k) = true := by simp [ky, kyT, underL, underD, under_app, under_bytes]
end
def portOk (lo hi : Int) (ports : Bool) (n : Int) : Bool := (lo == 0 && hi == 65535) || (ports && spanHas lo hi n)
def wishOk (w n : Int) : Bool := decide (w = -1) || decide (w = n)
/-- Has a key all that a rule asks? -/
def ruMatch (r : Ru) (k : Ky) : Bool := decide (ruChk r = 0) && (hasF r.sv r.sa r.sn k.v k.s && (hasF r.dv r.da r.dn k.v k.d && (portOk r.slo r.shi k.ports k.sp && (portOk r.dlo r.dhi k.ports k.dp && (wishOk r.proto k.proto && wishOk r.dscp k.dscp)))))
theorem mport_fc (h : Heap) (k : Ky) (kok : k.Ok) (r : Nat) (hb : h[r]? = some (.box (ky k))) (lo hi n : Int) :
    FC Try.prog 34 [.agg [.int .i64 lo, .int .i64 hi], .int .i64 n, .ref r 0] h fun d h' => d = .bool (portOk lo hi k.ports n) ∧ h' = h := by
  have hb2 : ∀ L : Heap, (h ++ L)[r]? = some (.box (ky k)) := fun L => by
    rw [List.getElem?_append_left (List.getElem?_eq_some_iff.1 hb).1]; exact hb
  refine FC.goes cf34 ?_; simp only [c34]; simp only [List.length_cons, List.length_nil, Nat.reduceAdd, Nat.reduceSub, List.replicate_succ, List.replicate_zero, List.cons_append, List.nil_append]
  simp (disch := first | omega | (simp only [List.length_append, List.length_cons, List.length_nil]; omega)) only [c34r0, c34r1, c34r2, go_sem, fill_c, ↓reduceIte, reduceCtorEq, Nat.reduceAdd, Nat.reduceSub, Nat.reducePow, Nat.reduceMul, Nat.reduceEqDiff, Nat.reduceLT, Nat.reduceLeDiff, Int.reduceToNat, Int.reduceLT, Int.reduceLE, Int.reduceEq, Int.reduceNeg, Int.reduceAdd, Int.reduceSub, Int.reduceMul]
  refine xfc_same (sall_fc _) ?_
  cases hA : (lo == 0 && hi == 65535) with
  | true =>
    have e : portOk lo hi k.ports n = true := by rw [portOk, hA]; rfl
    rw [e]
    simp (disch := first | omega | (simp only [List.length_append, List.length_cons, List.length_nil]; omega)) only [hA, go_sem, fill_c, ↓reduceIte, reduceCtorEq, Nat.reduceAdd, Nat.reduceSub, Nat.reducePow, Nat.reduceMul, Nat.reduceEqDiff, Nat.reduceLT, Nat.reduceLeDiff, Int.reduceToNat, Int.reduceLT, Int.reduceLE, Int.reduceEq, Int.reduceNeg, Int.reduceAdd, Int.reduceSub, Int.reduceMul]
    exact FinOk.drop (.inl rfl) (by simp [underL, underD]) ⟨rfl, rfl⟩
  | false =>
    have e : portOk lo hi k.ports n = (k.ports && spanHas lo hi n) := by rw [portOk, hA]; rfl
    rw [e]
    cases hp : k.ports with
    | true =>
      simp (disch := first | omega | (simp only [List.length_append, List.length_cons, List.length_nil]; omega)) only [hA, hb2, ky_d35, kok, kyT, hp, go_sem, fill_c, ↓reduceIte, reduceCtorEq, Nat.reduceAdd, Nat.reduceSub, Nat.reducePow, Nat.reduceMul, Nat.reduceEqDiff, Nat.reduceLT, Nat.reduceLeDiff, Int.reduceToNat, Int.reduceLT, Int.reduceLE, Int.reduceEq, Int.reduceNeg, Int.reduceAdd, Int.reduceSub, Int.reduceMul]
      refine gfc_same (shas_fc _ lo hi n) ?_
      simp (disch := first | omega | (simp only [List.length_append, List.length_cons, List.length_nil]; omega)) only [Bool.true_and, go_sem, fill_c, ↓reduceIte, reduceCtorEq, Nat.reduceAdd, Nat.reduceSub, Nat.reducePow, Nat.reduceMul, Nat.reduceEqDiff, Nat.reduceLT, Nat.reduceLeDiff, Int.reduceToNat, Int.reduceLT, Int.reduceLE, Int.reduceEq, Int.reduceNeg, Int.reduceAdd, Int.reduceSub, Int.reduceMul]
      exact FinOk.drop (.inl rfl) (by simp [underL, underD]) ⟨rfl, rfl⟩
    | false =>
      simp (disch := first | omega | (simp only [List.length_append, List.length_cons, List.length_nil]; omega)) only [hA, hb2, ky_d35, kok, kyT, hp, Bool.false_and, go_sem, fill_c, ↓reduceIte, reduceCtorEq, Nat.reduceAdd, Nat.reduceSub, Nat.reducePow, Nat.reduceMul, Nat.reduceEqDiff, Nat.reduceLT, Nat.reduceLeDiff, Int.reduceToNat, Int.reduceLT, Int.reduceLE, Int.reduceEq, Int.reduceNeg, Int.reduceAdd, Int.reduceSub, Int.reduceMul]
      exact FinOk.drop (.inl rfl) (by simp [underL, underD]) ⟨rfl, rfl⟩
theorem matches_fc (h : Heap) (r : Ru) (ok : r.Ok) (k : Ky) (kok : k.Ok) : FC Try.prog 8 [.agg (ru r), .agg (ky k)] h fun d h' => d = .bool (ruMatch r k) ∧ h' = h := by
  have eh := phas_fc
  simp only [prefD_pc] at eh
  refine FC.goes cf8 ?_; simp only [c8]; simp only [List.length_cons, List.length_nil, Nat.reduceAdd, Nat.reduceSub, List.replicate_succ, List.replicate_zero, List.cons_append, List.nil_append]
  simp (disch := first | omega | (simp only [List.length_append, List.length_cons, List.length_nil]; omega)) only [c8r0, c8r1, c8r2, c8r3, c8r4, ru_len, ru_one, ru_take, ok, ky_len, ky_one, kok, go_sem, fill_c, ↓reduceIte, reduceCtorEq, Nat.reduceAdd, Nat.reduceSub, Nat.reducePow, Nat.reduceMul, Nat.reduceEqDiff, Nat.reduceLT, Nat.reduceLeDiff, Int.reduceToNat, Int.reduceLT, Int.reduceLE, Int.reduceEq, Int.reduceNeg, Int.reduceAdd, Int.reduceSub, Int.reduceMul]
  refine gfc_same (rcheckP_fc _ r ok) ?_
  by_cases hc : ruChk r = 0
  · have e0 : decide (ruChk r = 0) = true := decide_eq_true hc
    simp (disch := first | omega | (simp only [List.length_append, List.length_cons, List.length_nil]; omega)) only [e0, ru_len, ru_s, ru_d, ru_l18, ok, ky_s, ky_d, ky_l1, ky_l17, ky_0, kok, go_sem, fill_c, ↓reduceIte, reduceCtorEq, Nat.reduceAdd, Nat.reduceSub, Nat.reducePow, Nat.reduceMul, Nat.reduceEqDiff, Nat.reduceLT, Nat.reduceLeDiff, Int.reduceToNat, Int.reduceLT, Int.reduceLE, Int.reduceEq, Int.reduceNeg, Int.reduceAdd, Int.reduceSub, Int.reduceMul]
    refine gfc_same (eh _ r.sv r.sn k.v r.sa k.s ok.s kok.s) ?_
    cases h1 : hasF r.sv r.sa r.sn k.v k.s with
    | false =>
      have e : ruMatch r k = false := by simp [ruMatch, h1]
      rw [e]
      simp (disch := first | omega | (simp only [List.length_append, List.length_cons, List.length_nil]; omega)) only [go_sem, fill_c, ↓reduceIte, reduceCtorEq, Nat.reduceAdd, Nat.reduceSub, Nat.reducePow, Nat.reduceMul, Nat.reduceEqDiff, Nat.reduceLT, Nat.reduceLeDiff, Int.reduceToNat, Int.reduceLT, Int.reduceLE, Int.reduceEq, Int.reduceNeg, Int.reduceAdd, Int.reduceSub, Int.reduceMul]
      exact FinOk.drop (.inl rfl) (by simp [underL, underD]) ⟨rfl, rfl⟩
    | true =>
      simp (disch := first | omega | (simp only [List.length_append, List.length_cons, List.length_nil]; omega)) only [ru_len, ru_s, ru_d, ru_l18, ok, ky_s, ky_d, ky_l1, ky_l17, ky_0, kok, go_sem, fill_c, ↓reduceIte, reduceCtorEq, Nat.reduceAdd, Nat.reduceSub, Nat.reducePow, Nat.reduceMul, Nat.reduceEqDiff, Nat.reduceLT, Nat.reduceLeDiff, Int.reduceToNat, Int.reduceLT, Int.reduceLE, Int.reduceEq, Int.reduceNeg, Int.reduceAdd, Int.reduceSub, Int.reduceMul]
      refine gfc_same (eh _ r.dv r.dn k.v r.da k.d ok.d kok.d) ?_
      cases h2 : hasF r.dv r.da r.dn k.v k.d with
      | false =>
        have e : ruMatch r k = false := by simp [ruMatch, h2]
        rw [e]
        simp (disch := first | omega | (simp only [List.length_append, List.length_cons, List.length_nil]; omega)) only [go_sem, fill_c, ↓reduceIte, reduceCtorEq, Nat.reduceAdd, Nat.reduceSub, Nat.reducePow, Nat.reduceMul, Nat.reduceEqDiff, Nat.reduceLT, Nat.reduceLeDiff, Int.reduceToNat, Int.reduceLT, Int.reduceLE, Int.reduceEq, Int.reduceNeg, Int.reduceAdd, Int.reduceSub, Int.reduceMul]
        exact FinOk.drop (.inl rfl) (by simp [underL, underD]) ⟨rfl, rfl⟩
      | true =>
        have e : ruMatch r k = (portOk r.slo r.shi k.ports k.sp && (portOk r.dlo r.dhi k.ports k.dp && (wishOk r.proto k.proto && wishOk r.dscp k.dscp))) := by
          rw [ruMatch, decide_eq_true hc, h1, h2]; rfl
        rw [e]
        simp (disch := first | omega | (simp only [List.length_append, List.length_cons, List.length_nil]; omega)) only [ru_d36, ru_d38, ruT, ok, ky_d36, ky_d37, kyT, kok, go_sem, fill_c, ↓reduceIte, reduceCtorEq, Nat.reduceAdd, Nat.reduceSub, Nat.reducePow, Nat.reduceMul, Nat.reduceEqDiff, Nat.reduceLT, Nat.reduceLeDiff, Int.reduceToNat, Int.reduceLT, Int.reduceLE, Int.reduceEq, Int.reduceNeg, Int.reduceAdd, Int.reduceSub, Int.reduceMul]
        refine gfc_same (mport_fc _ k kok _ (by simp (disch := first | omega | (simp only [List.length_append, List.length_cons, List.length_nil]; omega)) only [go_sem, fill_c, ↓reduceIte, reduceCtorEq, Nat.reduceAdd, Nat.reduceSub, Nat.reducePow, Nat.reduceMul, Nat.reduceEqDiff, Nat.reduceLT, Nat.reduceLeDiff, Int.reduceToNat, Int.reduceLT, Int.reduceLE, Int.reduceEq, Int.reduceNeg, Int.reduceAdd, Int.reduceSub, Int.reduceMul]) r.slo r.shi k.sp) ?_
        cases portOk r.slo r.shi k.ports k.sp with
        | false =>
          simp (disch := first | omega | (simp only [List.length_append, List.length_cons, List.length_nil]; omega)) only [Bool.false_and, go_sem, fill_c, ↓reduceIte, reduceCtorEq, Nat.reduceAdd, Nat.reduceSub, Nat.reducePow, Nat.reduceMul, Nat.reduceEqDiff, Nat.reduceLT, Nat.reduceLeDiff, Int.reduceToNat, Int.reduceLT, Int.reduceLE, Int.reduceEq, Int.reduceNeg, Int.reduceAdd, Int.reduceSub, Int.reduceMul]
          exact FinOk.drop (.inl rfl) (by simp [underL, underD]) ⟨rfl, rfl⟩
        | true =>
          simp (disch := first | omega | (simp only [List.length_append, List.length_cons, List.length_nil]; omega)) only [ru_d36, ru_d38, ruT, ok, ky_d36, ky_d37, kyT, kok, go_sem, fill_c, ↓reduceIte, reduceCtorEq, Nat.reduceAdd, Nat.reduceSub, Nat.reducePow, Nat.reduceMul, Nat.reduceEqDiff, Nat.reduceLT, Nat.reduceLeDiff, Int.reduceToNat, Int.reduceLT, Int.reduceLE, Int.reduceEq, Int.reduceNeg, Int.reduceAdd, Int.reduceSub, Int.reduceMul]
          refine gfc_same (mport_fc _ k kok _ (by simp (disch := first | omega | (simp only [List.length_append, List.length_cons, List.length_nil]; omega)) only [go_sem, fill_c, ↓reduceIte, reduceCtorEq, Nat.reduceAdd, Nat.reduceSub, Nat.reducePow, Nat.reduceMul, Nat.reduceEqDiff, Nat.reduceLT, Nat.reduceLeDiff, Int.reduceToNat, Int.reduceLT, Int.reduceLE, Int.reduceEq, Int.reduceNeg, Int.reduceAdd, Int.reduceSub, Int.reduceMul]) r.dlo r.dhi k.dp) ?_
          cases portOk r.dlo r.dhi k.ports k.dp with
          | false =>
            simp (disch := first | omega | (simp only [List.length_append, List.length_cons, List.length_nil]; omega)) only [Bool.false_and, go_sem, fill_c, ↓reduceIte, reduceCtorEq, Nat.reduceAdd, Nat.reduceSub, Nat.reducePow, Nat.reduceMul, Nat.reduceEqDiff, Nat.reduceLT, Nat.reduceLeDiff, Int.reduceToNat, Int.reduceLT, Int.reduceLE, Int.reduceEq, Int.reduceNeg, Int.reduceAdd, Int.reduceSub, Int.reduceMul]
            exact FinOk.drop (.inl rfl) (by simp [underL, underD]) ⟨rfl, rfl⟩
          | true =>
            simp (disch := first | omega | (simp only [List.length_append, List.length_cons, List.length_nil]; omega)) only [ru_d40, ruT, ok, ky_d33, kyT, kok, go_sem, fill_c, ↓reduceIte, reduceCtorEq, Nat.reduceAdd, Nat.reduceSub, Nat.reducePow, Nat.reduceMul, Nat.reduceEqDiff, Nat.reduceLT, Nat.reduceLeDiff, Int.reduceToNat, Int.reduceLT, Int.reduceLE, Int.reduceEq, Int.reduceNeg, Int.reduceAdd, Int.reduceSub, Int.reduceMul]
            refine gfc_same (asked_fc _ r.proto k.proto) ?_
            show gs _ _ _ _ ⟨setD _ _ (.bool (wishOk r.proto k.proto)), _⟩
            cases wishOk r.proto k.proto with
            | false =>
              simp (disch := first | omega | (simp only [List.length_append, List.length_cons, List.length_nil]; omega)) only [Bool.false_and, go_sem, fill_c, ↓reduceIte, reduceCtorEq, Nat.reduceAdd, Nat.reduceSub, Nat.reducePow, Nat.reduceMul, Nat.reduceEqDiff, Nat.reduceLT, Nat.reduceLeDiff, Int.reduceToNat, Int.reduceLT, Int.reduceLE, Int.reduceEq, Int.reduceNeg, Int.reduceAdd, Int.reduceSub, Int.reduceMul]
              exact FinOk.drop (.inl rfl) (by simp [underL, underD]) ⟨rfl, rfl⟩
            | true =>
              simp (disch := first | omega | (simp only [List.length_append, List.length_cons, List.length_nil]; omega)) only [ru_d41, ruT, ok, ky_d34, kyT, kok, go_sem, fill_c, ↓reduceIte, reduceCtorEq, Nat.reduceAdd, Nat.reduceSub, Nat.reducePow, Nat.reduceMul, Nat.reduceEqDiff, Nat.reduceLT, Nat.reduceLeDiff, Int.reduceToNat, Int.reduceLT, Int.reduceLE, Int.reduceEq, Int.reduceNeg, Int.reduceAdd, Int.reduceSub, Int.reduceMul]
              refine gfc_same (asked_fc _ r.dscp k.dscp) ?_
              show gs _ _ _ _ ⟨setD _ _ (.bool (wishOk r.dscp k.dscp)), _⟩
              simp (disch := first | omega | (simp only [List.length_append, List.length_cons, List.length_nil]; omega)) only [go_sem, fill_c, ↓reduceIte, reduceCtorEq, Nat.reduceAdd, Nat.reduceSub, Nat.reducePow, Nat.reduceMul, Nat.reduceEqDiff, Nat.reduceLT, Nat.reduceLeDiff, Int.reduceToNat, Int.reduceLT, Int.reduceLE, Int.reduceEq, Int.reduceNeg, Int.reduceAdd, Int.reduceSub, Int.reduceMul]
              exact FinOk.drop (.inl rfl) (by simp [underL, underD]) ⟨rfl, rfl⟩
  · have e : ruMatch r k = false := by simp [ruMatch, hc]
    rw [e]
    simp (disch := first | omega | (simp only [List.length_append, List.length_cons, List.length_nil]; omega)) only [hc, go_sem, fill_c, ↓reduceIte, reduceCtorEq, Nat.reduceAdd, Nat.reduceSub, Nat.reducePow, Nat.reduceMul, Nat.reduceEqDiff, Nat.reduceLT, Nat.reduceLeDiff, Int.reduceToNat, Int.reduceLT, Int.reduceLE, Int.reduceEq, Int.reduceNeg, Int.reduceAdd, Int.reduceSub, Int.reduceMul]
    exact FinOk.drop (.inl rfl) (by simp [underL, underD]) ⟨rfl, rfl⟩
end Go.Proofs

/-
  Own work. Rules and keys as arguments.
-/
namespace Go.Proofs
open Go Go.Ytodlpcoffmnmbaa
set_option linter.unusedVariables false
set_option linter.unusedSimpArgs false
set_option maxRecDepth 10000

theorem ru_enc {x : (Sh.pair (.pair (.int .i64) (.pair (.arr 16 (.int .u8)) (.pair (.int .i64) .unit))) (.pair (.pair (.int .i64) (.pair (.arr 16 (.int .u8)) (.pair (.int .i64) .unit))) (.pair (.pair (.int .i64) (.pair (.int .i64) .unit)) (.pair (.pair (.int .i64) (.pair (.int .i64) .unit)) (.pair (.int .i64) (.pair (.int .i64) (.pair (.int .i64) .unit))))))).T} {cs : List D}
    (ok : (Sh.pair (.pair (.int .i64) (.pair (.arr 16 (.int .u8)) (.pair (.int .i64) .unit))) (.pair (.pair (.int .i64) (.pair (.arr 16 (.int .u8)) (.pair (.int .i64) .unit))) (.pair (.pair (.int .i64) (.pair (.int .i64) .unit)) (.pair (.pair (.int .i64) (.pair (.int .i64) .unit)) (.pair (.int .i64) (.pair (.int .i64) (.pair (.int .i64) .unit))))))).ok x)
    (en : (Sh.pair (.pair (.int .i64) (.pair (.arr 16 (.int .u8)) (.pair (.int .i64) .unit))) (.pair (.pair (.int .i64) (.pair (.arr 16 (.int .u8)) (.pair (.int .i64) .unit))) (.pair (.pair (.int .i64) (.pair (.int .i64) .unit)) (.pair (.pair (.int .i64) (.pair (.int .i64) .unit)) (.pair (.int .i64) (.pair (.int .i64) (.pair (.int .i64) .unit))))))).Enc x cs) :
    ∃ r : Ru, r.Ok ∧ cs = ru r := by
  obtain ⟨c1, r1, e1, ⟨c2, r2, e2, ⟨c3, r3, ⟨c31, r31, e31, ⟨c32, r32, e32, e33, rfl⟩, rfl⟩, ⟨c4, r4, ⟨c41, r41, e41, ⟨c42, r42, e42, e43, rfl⟩, rfl⟩, ⟨c5, r5, e5, ⟨c6, r6, e6, ⟨c7, r7, e7, e8, rfl⟩, rfl⟩, rfl⟩, rfl⟩, rfl⟩, rfl⟩, rfl⟩ := en
  simp only [Sh.Enc] at e31 e32 e33 e41 e42 e43 e5 e6 e7 e8
  subst e31; subst e32; subst e33; subst e41; subst e42; subst e43; subst e5; subst e6; subst e7; subst e8
  obtain ⟨v, a, n, h2, rfl, h3⟩ := pc_enc ok.1 e1
  obtain ⟨w, b, m, h4, rfl, h5⟩ := pc_enc ok.2.1 e2
  exact ⟨⟨v, a, n, w, b, m, _, _, _, _, _, _, _⟩, ⟨h2, h4⟩, rfl⟩
theorem ru_open {x : (Sh.pair (.pair (.int .i64) (.pair (.arr 16 (.int .u8)) (.pair (.int .i64) .unit))) (.pair (.pair (.int .i64) (.pair (.arr 16 (.int .u8)) (.pair (.int .i64) .unit))) (.pair (.pair (.int .i64) (.pair (.int .i64) .unit)) (.pair (.pair (.int .i64) (.pair (.int .i64) .unit)) (.pair (.int .i64) (.pair (.int .i64) (.pair (.int .i64) .unit))))))).T} {d : D}
    (ok : (Sh.pair (.pair (.int .i64) (.pair (.arr 16 (.int .u8)) (.pair (.int .i64) .unit))) (.pair (.pair (.int .i64) (.pair (.arr 16 (.int .u8)) (.pair (.int .i64) .unit))) (.pair (.pair (.int .i64) (.pair (.int .i64) .unit)) (.pair (.pair (.int .i64) (.pair (.int .i64) .unit)) (.pair (.int .i64) (.pair (.int .i64) (.pair (.int .i64) .unit))))))).ok x)
    (en : (Sh.pair (.pair (.int .i64) (.pair (.arr 16 (.int .u8)) (.pair (.int .i64) .unit))) (.pair (.pair (.int .i64) (.pair (.arr 16 (.int .u8)) (.pair (.int .i64) .unit))) (.pair (.pair (.int .i64) (.pair (.int .i64) .unit)) (.pair (.pair (.int .i64) (.pair (.int .i64) .unit)) (.pair (.int .i64) (.pair (.int .i64) (.pair (.int .i64) .unit))))))).EncV x d) :
    ∃ r : Ru, r.Ok ∧ d = .agg (ru r) := by
  obtain ⟨cs, h1, rfl⟩ := en
  obtain ⟨r, h2, rfl⟩ := ru_enc ok h1
  exact ⟨r, h2, rfl⟩
theorem ky_open {x : (Sh.pair (.int .i64) (.pair (.arr 16 (.int .u8)) (.pair (.arr 16 (.int .u8)) (.pair (.int .i64) (.pair (.int .i64) (.pair .bool (.pair (.int .i64) (.pair (.int .i64) .unit)))))))).T} {d : D}
    (ok : (Sh.pair (.int .i64) (.pair (.arr 16 (.int .u8)) (.pair (.arr 16 (.int .u8)) (.pair (.int .i64) (.pair (.int .i64) (.pair .bool (.pair (.int .i64) (.pair (.int .i64) .unit)))))))).ok x)
    (en : (Sh.pair (.int .i64) (.pair (.arr 16 (.int .u8)) (.pair (.arr 16 (.int .u8)) (.pair (.int .i64) (.pair (.int .i64) (.pair .bool (.pair (.int .i64) (.pair (.int .i64) .unit)))))))).EncV x d) :
    ∃ k : Ky, k.Ok ∧ d = .agg (ky k) := by
  obtain ⟨cs, ⟨c1, r1, e1, ⟨c2, r2, e2, ⟨c3, r3, e3, ⟨c4, r4, e4, ⟨c5, r5, e5, ⟨c6, r6, e6, ⟨c7, r7, e7, ⟨c8, r8, e8, e9, rfl⟩, rfl⟩, rfl⟩, rfl⟩, rfl⟩, rfl⟩, rfl⟩, rfl⟩, rfl⟩ := en
  simp only [Sh.Enc] at e1 e4 e5 e6 e7 e8 e9
  subst e1; subst e4; subst e5; subst e6; subst e7; subst e8; subst e9
  have h2 : c2 = (x.2.1 : List Int).map (D.int .u8) := encL_map.1 e2
  have h3 : c3 = (x.2.2.1 : List Int).map (D.int .u8) := encL_map.1 e3
  obtain ⟨l, h4, _, h5⟩ := u8_bytes (zs := (x.2.1 : List Int)) ok.2.1.2
  obtain ⟨m, h6, _, h7⟩ := u8_bytes (zs := (x.2.2.1 : List Int)) ok.2.2.1.2
  refine ⟨⟨x.1, l, m, x.2.2.2.1, x.2.2.2.2.1, x.2.2.2.2.2.1, x.2.2.2.2.2.2.1, x.2.2.2.2.2.2.2.1⟩, ⟨by simp only; rw [h5]; exact ok.2.1.1, by simp only; rw [h7]; exact ok.2.2.1.1⟩, ?_⟩
  rw [h2, h3, h4, h6]; rfl
end Go.Proofs

/-
  Own work. The walks of prefix.All, rule.Any, shadow.right, wider, Covers, and of a meeting's address, port, number.
-/
namespace Go.Proofs
open Go Go.Ytodlpcoffmnmbaa
set_option linter.unusedVariables false
set_option linter.unusedSimpArgs false
set_option maxRecDepth 10000

/-! ### slices.IndexFunc[[]weighbridge/api.Rule,weighbridge/api.Rule], params 2 -/
def c93r0 : List AStm := [.op (some 4) none (.mv (.c (.int .i64 0)))]
def c93r1 : List AStm := [.op (some 6) none (.mv (.t 0)),
    .op (some 7) none (.len false (.t 6)),
    .op (some 8) none (.mv (.c (.int .i64 0)))]
def c93r2 : List AStm := [.op (some 9) none (.bin .lss (.t 8) (.t 7))]
def c93r3 : List AStm := [.op (some 10) none (.mv (.t 8)),
    .op (some 5) none (.mv (.t 10))]
def c93r4 : List AStm := [.op (some 11) none (.mv (.t 1)),
    .op (some 12) none (.mv (.t 0)),
    .op (some 13) none (.mv (.t 5)),
    .op (some 14) none (.ixs 43 (.t 12) (.t 13)),
    .op (some 15) none (.load (some 43) (.t 14)),
    .call (some 16) none (.t 11) [(.t 15)]]
def c93r5 : List AStm := [.op (some 17) none (.mv (.t 5)),
    .op (some 4) none (.mv (.t 17))]
def c93r6 : List AStm := [.op (some 18) none (.bin .add (.t 8) (.c (.int .i64 1))),
    .op (some 8) none (.mv (.t 18))]
def c93l7 : AC := .seq (.reg c93r2) (.seq (.cond (.t 9) (.skip) (.exit 0)) (.seq (.block 1 (.seq (.reg c93r3) (.seq (.reg c93r4) (.cond (.t 16) (.seq (.reg c93r5) (.ret)) (.skip))))) (.reg c93r6)))
def c93r8 : List AStm := [.op (some 4) none (.mv (.c (.int .i64 (-1))))]
def c93 : CF := ⟨.seq (.reg c93r0) (.seq (.seq (.reg c93r1) (.block 0 (.loop c93l7))) (.seq (.reg c93r8) (.ret))), [.tmp 4], 19⟩
theorem cf93 : cfun Try.prog 93 = some c93 := by kernel_rfl

/-! ### slices.ContainsFunc[[]weighbridge/api.Rule,weighbridge/api.Rule], params 2 -/
def c71r0 : List AStm := [.op (some 4) none (.mv (.c (.bool false)))]
def c71r1 : List AStm := [.op (some 5) none (.mv (.t 0)),
    .op (some 6) none (.mv (.t 1)),
    .call (some 7) none (.c (.fn (.func 93) [] [])) [(.t 5), (.t 6)],
    .op (some 8) none (.bin .geq (.t 7) (.c (.int .i64 0))),
    .op (some 4) none (.mv (.t 8))]
def c71 : CF := ⟨.seq (.reg c71r0) (.seq (.reg c71r1) (.ret)), [.tmp 4], 9⟩
theorem cf71 : cfun Try.prog 71 = some c71 := by kernel_rfl

/-! ### weighbridge/shadow.right$1, params 1 -/
def c72r0 : List AStm := [.op (some 1) none (.box (.t 0)),
    .op (some 2) none (.mv (.c (.bool false)))]
def c72r1 : List AStm := [.op (some 3) none (.load (some 43) (.t 1)),
    .call (some 4) none (.c (.fn (.func 13) [] [])) [(.t 3)],
    .op (some 5) none (.bin .neq (.t 4) (.c (.int .i64 0))),
    .op (some 2) none (.mv (.t 5))]
def c72 : CF := ⟨.seq (.reg c72r0) (.seq (.reg c72r1) (.ret)), [.tmp 2], 6⟩
theorem cf72 : cfun Try.prog 72 = some c72 := by kernel_rfl

/-! ### weighbridge/shadow.right, params 1 -/
def c38r0 : List AStm := [.op (some 2) none (.mv (.c (.bool false)))]
def c38r1 : List AStm := [.op (some 3) none (.mv (.t 0)),
    .call (some 4) none (.c (.fn (.func 71) [] [])) [(.t 3), (.c (.fn (.func 72) [] []))],
    .op (some 5) none (.un .not (.t 4)),
    .op (some 2) none (.mv (.t 5))]
def c38 : CF := ⟨.seq (.reg c38r0) (.seq (.reg c38r1) (.ret)), [.tmp 2], 6⟩
theorem cf38 : cfun Try.prog 38 = some c38 := by kernel_rfl

/-! ### weighbridge/shadow.wider, params 2 -/
def c40r0 : List AStm := [.op (some 2) none (.box (.t 0)),
    .op (some 3) none (.box (.t 1)),
    .op (some 4) none (.mv (.c (.bool false)))]
def c40r1 : List AStm := []
def c40r2 : List AStm := [.op (some 5) none (.load (some 2) (.t 2)),
    .callG (some 6) none (.c (.fn (.func 35) [] [])) [],
    .op (some 7) none (.eqa false [.ki, .ki] (.t 5) (.t 6)),
    .op (some 8) none (.mv (.t 7)),
    .op (some 9) (some (8, false)) (.load (some 2) (.t 3)),
    .callG (some 10) (some (8, false)) (.c (.fn (.func 35) [] [])) [],
    .op (some 11) (some (8, false)) (.eqa true [.ki, .ki] (.t 9) (.t 10)),
    .op (some 12) (some (8, false)) (.mv (.t 11)),
    .op (some 13) (some (12, true)) (.faddr 0 (.t 2)),
    .op (some 14) (some (12, true)) (.load none (.t 13)),
    .op (some 15) (some (12, true)) (.faddr 0 (.t 3)),
    .op (some 16) (some (12, true)) (.load none (.t 15)),
    .op (some 17) (some (12, true)) (.bin .leq (.t 14) (.t 16)),
    .op (some 18) (some (8, false)) (.pick (.t 12) (.t 17) (.c (.bool false))),
    .op (some 19) (some (8, false)) (.mv (.t 18)),
    .op (some 20) (some (19, true)) (.faddr 1 (.t 2)),
    .op (some 21) (some (19, true)) (.load none (.t 20)),
    .op (some 22) (some (19, true)) (.faddr 1 (.t 3)),
    .op (some 23) (some (19, true)) (.load none (.t 22)),
    .op (some 24) (some (19, true)) (.bin .geq (.t 21) (.t 23)),
    .op (some 25) (some (8, false)) (.pick (.t 19) (.t 24) (.c (.bool false))),
    .op (some 26) none (.pick (.t 8) (.c (.bool true)) (.t 25)),
    .op (some 4) none (.mv (.t 26))]
def c40 : CF := ⟨.seq (.reg c40r0) (.seq (.dreg c40r1 c40r2) (.ret)), [.tmp 4], 27⟩
theorem cf40 : cfun Try.prog 40 = some c40 := by kernel_rfl

/-! ### weighbridge/shadow.Covers$1, params 2 -/
def c39r0 : List AStm := [.op (some 4) none (.mv (.c (.bool false)))]
def c39r1 : List AStm := [.op (some 5) none (.mv (.t 0)),
    .op (some 6) none (.bin .eql (.t 5) (.c (.int .i64 (-1)))),
    .op (some 7) none (.mv (.t 6)),
    .op (some 8) (some (7, false)) (.mv (.t 0)),
    .op (some 9) (some (7, false)) (.mv (.t 1)),
    .op (some 10) (some (7, false)) (.bin .eql (.t 8) (.t 9)),
    .op (some 11) none (.pick (.t 7) (.c (.bool true)) (.t 10)),
    .op (some 4) none (.mv (.t 11))]
def c39 : CF := ⟨.seq (.reg c39r0) (.seq (.reg c39r1) (.ret)), [.tmp 4], 12⟩
theorem cf39 : cfun Try.prog 39 = some c39 := by kernel_rfl

/-! ### weighbridge/shadow.Covers, params 2 -/
def c9r0 : List AStm := [.op (some 2) none (.box (.t 0)),
    .op (some 3) none (.box (.t 1)),
    .op (some 4) none (.mv (.c (.bool false)))]
def c9r1 : List AStm := [.op (some 6) none (.load (some 43) (.t 2)),
    .op (some 7) none (.load (some 43) (.t 3)),
    .op (some 8) none (.bslice 43 [(.int .i64 0), (.int .u8 0), (.int .u8 0), (.int .u8 0), (.int .u8 0), (.int .u8 0), (.int .u8 0), (.int .u8 0), (.int .u8 0), (.int .u8 0), (.int .u8 0), (.int .u8 0), (.int .u8 0), (.int .u8 0), (.int .u8 0), (.int .u8 0), (.int .u8 0), (.int .i64 0), (.int .i64 0), (.int .u8 0), (.int .u8 0), (.int .u8 0), (.int .u8 0), (.int .u8 0), (.int .u8 0), (.int .u8 0), (.int .u8 0), (.int .u8 0), (.int .u8 0), (.int .u8 0), (.int .u8 0), (.int .u8 0), (.int .u8 0), (.int .u8 0), (.int .u8 0), (.int .i64 0), (.int .i64 0), (.int .i64 0), (.int .i64 0), (.int .i64 0), (.int .i64 0), (.int .i64 0), (.int .i64 0), (.int .i64 0), (.int .u8 0), (.int .u8 0), (.int .u8 0), (.int .u8 0), (.int .u8 0), (.int .u8 0), (.int .u8 0), (.int .u8 0), (.int .u8 0), (.int .u8 0), (.int .u8 0), (.int .u8 0), (.int .u8 0), (.int .u8 0), (.int .u8 0), (.int .u8 0), (.int .i64 0), (.int .i64 0), (.int .u8 0), (.int .u8 0), (.int .u8 0), (.int .u8 0), (.int .u8 0), (.int .u8 0), (.int .u8 0), (.int .u8 0), (.int .u8 0), (.int .u8 0), (.int .u8 0), (.int .u8 0), (.int .u8 0), (.int .u8 0), (.int .u8 0), (.int .u8 0), (.int .i64 0), (.int .i64 0), (.int .i64 0), (.int .i64 0), (.int .i64 0), (.int .i64 0), (.int .i64 0), (.int .i64 0)] 2 [(0, 43, (.t 6)), (43, 43, (.t 7))]),
    .call (some 9) none (.c (.fn (.func 38) [] [])) [(.t 8)],
    .op (some 10) none (.un .not (.t 9)),
    .op (some 11) none (.mv (.t 10)),
    .op (some 12) (some (11, false)) (.faddr 0 (.t 3)),
    .op (some 13) (some (11, false)) (.load (some 18) (.t 12)),
    .op (some 14) (some (11, false)) (.faddr 0 (.t 2)),
    .op (some 15) (some (11, false)) (.load (some 18) (.t 14)),
    .call (some 16) (some (11, false)) (.c (.fn (.func 29) [] [])) [(.t 13), (.t 15)],
    .op (some 17) (some (11, false)) (.un .not (.t 16)),
    .op (some 18) none (.pick (.t 11) (.c (.bool true)) (.t 17)),
    .op (some 19) none (.mv (.t 18)),
    .op (some 20) (some (19, false)) (.faddr 18 (.t 3)),
    .op (some 21) (some (19, false)) (.load (some 18) (.t 20)),
    .op (some 22) (some (19, false)) (.faddr 18 (.t 2)),
    .op (some 23) (some (19, false)) (.load (some 18) (.t 22)),
    .call (some 24) (some (19, false)) (.c (.fn (.func 29) [] [])) [(.t 21), (.t 23)],
    .op (some 25) (some (19, false)) (.un .not (.t 24)),
    .op (some 26) none (.pick (.t 19) (.c (.bool true)) (.t 25))]
def c9r2 : List AStm := [.op (some 4) none (.mv (.c (.bool false)))]
def c9r3 : List AStm := [.op (some 5) none (.mv (.c (.fn (.func 39) [] [])))]
def c9r4 : List AStm := [.op (some 27) none (.faddr 36 (.t 2)),
    .op (some 28) none (.load (some 2) (.t 27)),
    .op (some 29) none (.faddr 36 (.t 3)),
    .op (some 30) none (.load (some 2) (.t 29)),
    .call (some 31) none (.c (.fn (.func 40) [] [])) [(.t 28), (.t 30)],
    .op (some 32) none (.mv (.t 31)),
    .op (some 33) (some (32, true)) (.faddr 38 (.t 2)),
    .op (some 34) (some (32, true)) (.load (some 2) (.t 33)),
    .op (some 35) (some (32, true)) (.faddr 38 (.t 3)),
    .op (some 36) (some (32, true)) (.load (some 2) (.t 35)),
    .call (some 37) (some (32, true)) (.c (.fn (.func 40) [] [])) [(.t 34), (.t 36)],
    .op (some 38) none (.pick (.t 32) (.t 37) (.c (.bool false))),
    .op (some 39) none (.mv (.t 38)),
    .op (some 40) (some (39, true)) (.mv (.t 5)),
    .op (some 41) (some (39, true)) (.faddr 40 (.t 2)),
    .op (some 42) (some (39, true)) (.load none (.t 41)),
    .op (some 43) (some (39, true)) (.faddr 40 (.t 3)),
    .op (some 44) (some (39, true)) (.load none (.t 43)),
    .call (some 45) (some (39, true)) (.t 40) [(.t 42), (.t 44)],
    .op (some 46) none (.pick (.t 39) (.t 45) (.c (.bool false))),
    .op (some 47) none (.mv (.t 46)),
    .op (some 48) (some (47, true)) (.mv (.t 5)),
    .op (some 49) (some (47, true)) (.faddr 41 (.t 2)),
    .op (some 50) (some (47, true)) (.load none (.t 49)),
    .op (some 51) (some (47, true)) (.faddr 41 (.t 3)),
    .op (some 52) (some (47, true)) (.load none (.t 51)),
    .call (some 53) (some (47, true)) (.t 48) [(.t 50), (.t 52)],
    .op (some 54) none (.pick (.t 47) (.t 53) (.c (.bool false))),
    .op (some 4) none (.mv (.t 54))]
def c9 : CF := ⟨.seq (.reg c9r0) (.seq (.seq (.reg c9r1) (.cond (.t 26) (.seq (.reg c9r2) (.ret)) (.skip))) (.seq (.reg c9r3) (.seq (.reg c9r4) (.ret)))), [.tmp 4], 55⟩
theorem cf9 : cfun Try.prog 9 = some c9 := by kernel_rfl

/-! ### (*weighbridge/shadow.meeting).address, params 3 -/
def c41r0 : List AStm := [.op (some 4) none (.box (.t 1)),
    .op (some 5) none (.box (.t 2)),
    .op (some 6) none (.alloc (List.replicate 16 (.int .u8 0)))]
def c41r1 : List AStm := [.op (some 7) none (.mv (.t 0)),
    .op (some 8) none (.mv (.t 0)),
    .op (some 9) none (.nilchk (.t 8)),
    .op (some 10) none (.faddr 0 (.t 9)),
    .op (some 11) none (.load none (.t 10)),
    .op (some 12) none (.mv (.t 11)),
    .op (some 13) (some (12, false)) (.load (some 18) (.t 4)),
    .op (some 14) (some (12, false)) (.load (some 18) (.t 5)),
    .call (some 15) (some (12, false)) (.c (.fn (.func 30) [] [])) [(.t 13), (.t 14)],
    .op (some 16) (some (12, false)) (.un .not (.t 15)),
    .op (some 17) none (.pick (.t 12) (.c (.bool true)) (.t 16)),
    .op (some 18) none (.nilchk (.t 7)),
    .op (some 19) none (.faddr 0 (.t 18)),
    .op none none (.store 1 (.t 19) (.t 17))]
def c41r2 : List AStm := [.op (some 20) none (.faddr 17 (.t 4)),
    .op (some 21) none (.load none (.t 20)),
    .op (some 22) none (.faddr 17 (.t 5)),
    .op (some 23) none (.load none (.t 22)),
    .op (some 24) none (.bin .gtr (.t 21) (.t 23))]
def c41r3 : List AStm := [.op (some 25) none (.faddr 1 (.t 4)),
    .op (some 26) none (.load (some 16) (.t 25)),
    .op none none (.store 16 (.t 6) (.t 26))]
def c41r4 : List AStm := [.op (some 27) none (.faddr 1 (.t 5)),
    .op (some 28) none (.load (some 16) (.t 27)),
    .op none none (.store 16 (.t 6) (.t 28))]
def c41 : CF := ⟨.seq (.reg c41r0) (.seq (.reg c41r1) (.seq (.seq (.reg c41r2) (.cond (.t 24) (.seq (.reg c41r3) (.ret)) (.skip))) (.seq (.reg c41r4) (.ret)))), [.cell 6 (some 16)], 29⟩
theorem cf41 : cfun Try.prog 41 = some c41 := by kernel_rfl

/-! ### (*weighbridge/shadow.meeting).port, params 3 -/
def c42r0 : List AStm := [.op (some 4) none (.box (.t 1)),
    .op (some 5) none (.box (.t 2)),
    .op (some 6) none (.mv (.c (.int .i64 0)))]
def c42r1 : List AStm := [.op (some 10) none (.load (some 2) (.t 4)),
    .op (some 11) none (.load (some 2) (.t 5)),
    .call (some 12) none (.c (.fn (.func 73) [] [])) [(.t 10), (.t 11)],
    .op (some 9) none (.mv (.t 12)),
    .op (some 13) none (.ext (.t 9) 0),
    .op (some 14) none (.ext (.t 9) 1),
    .op (some 7) none (.alloc [(.int .i64 0), (.int .i64 0)]),
    .op none none (.store 2 (.t 7) (.t 13)),
    .op (some 8) none (.mv (.t 14))]
def c42r2 : List AStm := [.op (some 15) none (.mv (.t 0)),
    .op (some 16) none (.mv (.t 0)),
    .op (some 17) none (.nilchk (.t 16)),
    .op (some 18) none (.faddr 0 (.t 17)),
    .op (some 19) none (.load none (.t 18)),
    .op (some 20) none (.mv (.t 19)),
    .op (some 21) (some (20, false)) (.mv (.t 8)),
    .op (some 22) (some (20, false)) (.un .not (.t 21)),
    .op (some 23) none (.pick (.t 20) (.c (.bool true)) (.t 22)),
    .op (some 24) none (.nilchk (.t 15)),
    .op (some 25) none (.faddr 0 (.t 24)),
    .op none none (.store 1 (.t 25) (.t 23))]
def c42r3 : List AStm := [.op (some 26) none (.faddr 0 (.t 7)),
    .op (some 27) none (.load none (.t 26)),
    .op (some 6) none (.mv (.t 27))]
def c42 : CF := ⟨.seq (.reg c42r0) (.seq (.reg c42r1) (.seq (.reg c42r2) (.seq (.reg c42r3) (.ret)))), [.tmp 6], 28⟩
theorem cf42 : cfun Try.prog 42 = some c42 := by kernel_rfl

/-! ### (*weighbridge/shadow.meeting).number, params 4 -/
def c43r0 : List AStm := [.op (some 8) none (.mv (.c (.int .i64 0)))]
def c43r1 : List AStm := [.op (some 10) none (.mv (.t 1)),
    .op (some 11) none (.bin .eql (.t 10) (.c (.int .i64 (-1)))),
    .op (some 12) none (.mv (.t 11)),
    .op (some 13) (some (12, true)) (.mv (.t 2)),
    .op (some 14) (some (12, true)) (.bin .eql (.t 13) (.c (.int .i64 (-1)))),
    .op (some 15) none (.pick (.t 12) (.t 14) (.c (.bool false))),
    .op (some 9) none (.mv (.t 15))]
def c43r2 : List AStm := [.op (some 16) none (.mv (.t 3)),
    .op (some 8) none (.mv (.t 16))]
def c43r3 : List AStm := [.op (some 18) none (.mv (.t 1)),
    .op (some 19) none (.bin .eql (.t 18) (.c (.int .i64 (-1)))),
    .op (some 17) none (.mv (.t 19))]
def c43r4 : List AStm := [.op (some 20) none (.mv (.t 2)),
    .op (some 8) none (.mv (.t 20))]
def c43r5 : List AStm := [.op (some 22) none (.mv (.t 2)),
    .op (some 23) none (.bin .neq (.t 22) (.c (.int .i64 (-1)))),
    .op (some 24) none (.mv (.t 23)),
    .op (some 25) (some (24, true)) (.mv (.t 1)),
    .op (some 26) (some (24, true)) (.mv (.t 2)),
    .op (some 27) (some (24, true)) (.bin .neq (.t 25) (.t 26)),
    .op (some 28) none (.pick (.t 24) (.t 27) (.c (.bool false))),
    .op (some 21) none (.mv (.t 28))]
def c43r6 : List AStm := [.op (some 29) none (.mv (.t 0)),
    .op (some 30) none (.nilchk (.t 29)),
    .op (some 31) none (.faddr 0 (.t 30)),
    .op none none (.store 1 (.t 31) (.c (.bool true)))]
def c43r7 : List AStm := [.op (some 32) none (.mv (.t 1)),
    .op (some 8) none (.mv (.t 32))]
def c43 : CF := ⟨.seq (.reg c43r0) (.seq (.block 0 (.seq (.reg c43r1) (.cond (.t 9) (.seq (.reg c43r2) (.ret)) (.seq (.reg c43r3) (.cond (.t 17) (.seq (.reg c43r4) (.ret)) (.seq (.reg c43r5) (.cond (.t 21) (.reg c43r6) (.skip)))))))) (.seq (.reg c43r7) (.ret))), [.tmp 8], 33⟩
theorem cf43 : cfun Try.prog 43 = some c43 := by kernel_rfl



theorem pall_fc (h : Heap) (v : Int) : FC Try.prog 33 [.int .i64 v] h fun d h' => d = .agg (pc v (zeros 16) 0) ∧ h' = h := by
  refine FC.goes cf33 ?_; simp only [c33]; simp only [List.length_cons, List.length_nil, Nat.reduceAdd, Nat.reduceSub, List.replicate_succ, List.replicate_zero, List.cons_append, List.nil_append]
  simp (disch := first | omega | (simp only [List.length_append, List.length_cons, List.length_nil]; omega)) only [c33r0, c33r1, splice0, go_sem, fill_c, ↓reduceIte, reduceCtorEq, Nat.reduceAdd, Nat.reduceSub, Nat.reducePow, Nat.reduceMul, Nat.reduceEqDiff, Nat.reduceLT, Nat.reduceLeDiff, Int.reduceToNat, Int.reduceLT, Int.reduceLE, Int.reduceEq, Int.reduceNeg, Int.reduceAdd, Int.reduceSub, Int.reduceMul]
  exact FinOk.drop (.inl rfl) (by simp [underL, underD]) ⟨rfl, rfl⟩
/-- The rule that asks nothing but the version. -/
def ruAny (v c : Int) : Ru := ⟨v, zeros 16, 0, v, zeros 16, 0, 0, 65535, 0, 65535, -1, -1, c⟩
theorem ruAny_ok (v c : Int) : (ruAny v c).Ok := ⟨zeros_len 16, zeros_len 16⟩
theorem any_fc (h : Heap) (v c : Int) : FC Try.prog 16 [.int .i64 v, .int .i64 c] h fun d h' => d = .agg (ru (ruAny v c)) ∧ h' = h := by
  have zz : pc v (zeros 16) 0 = [.int .i64 v, .int .u8 0, .int .u8 0, .int .u8 0, .int .u8 0, .int .u8 0, .int .u8 0, .int .u8 0, .int .u8 0, .int .u8 0, .int .u8 0, .int .u8 0, .int .u8 0, .int .u8 0, .int .u8 0, .int .u8 0, .int .u8 0, .int .i64 0] := rfl
  refine FC.goes cf16 ?_; simp only [c16]; simp only [List.length_cons, List.length_nil, Nat.reduceAdd, Nat.reduceSub, List.replicate_succ, List.replicate_zero, List.cons_append, List.nil_append]
  simp (disch := first | omega | (simp only [List.length_append, List.length_cons, List.length_nil]; omega)) only [c16r0, c16r1, go_sem, fill_c, ↓reduceIte, reduceCtorEq, Nat.reduceAdd, Nat.reduceSub, Nat.reducePow, Nat.reduceMul, Nat.reduceEqDiff, Nat.reduceLT, Nat.reduceLeDiff, Int.reduceToNat, Int.reduceLT, Int.reduceLE, Int.reduceEq, Int.reduceNeg, Int.reduceAdd, Int.reduceSub, Int.reduceMul]
  refine gfc_same (pall_fc _ v) ?_
  rw [zz]
  simp (disch := first | omega | (simp only [List.length_append, List.length_cons, List.length_nil]; omega)) only [go_sem, fill_c, ↓reduceIte, reduceCtorEq, Nat.reduceAdd, Nat.reduceSub, Nat.reducePow, Nat.reduceMul, Nat.reduceEqDiff, Nat.reduceLT, Nat.reduceLeDiff, Int.reduceToNat, Int.reduceLT, Int.reduceLE, Int.reduceEq, Int.reduceNeg, Int.reduceAdd, Int.reduceSub, Int.reduceMul]
  refine gfc_same (pall_fc _ v) ?_
  rw [zz]
  simp (disch := first | omega | (simp only [List.length_append, List.length_cons, List.length_nil]; omega)) only [go_sem, fill_c, ↓reduceIte, reduceCtorEq, Nat.reduceAdd, Nat.reduceSub, Nat.reducePow, Nat.reduceMul, Nat.reduceEqDiff, Nat.reduceLT, Nat.reduceLeDiff, Int.reduceToNat, Int.reduceLT, Int.reduceLE, Int.reduceEq, Int.reduceNeg, Int.reduceAdd, Int.reduceSub, Int.reduceMul]
  refine gfc_same (sall_fc _) ?_
  simp (disch := first | omega | (simp only [List.length_append, List.length_cons, List.length_nil]; omega)) only [go_sem, fill_c, ↓reduceIte, reduceCtorEq, Nat.reduceAdd, Nat.reduceSub, Nat.reducePow, Nat.reduceMul, Nat.reduceEqDiff, Nat.reduceLT, Nat.reduceLeDiff, Int.reduceToNat, Int.reduceLT, Int.reduceLE, Int.reduceEq, Int.reduceNeg, Int.reduceAdd, Int.reduceSub, Int.reduceMul]
  refine gfc_same (sall_fc _) ?_
  simp (disch := first | omega | (simp only [List.length_append, List.length_cons, List.length_nil]; omega)) only [go_sem, fill_c, ↓reduceIte, reduceCtorEq, Nat.reduceAdd, Nat.reduceSub, Nat.reducePow, Nat.reduceMul, Nat.reduceEqDiff, Nat.reduceLT, Nat.reduceLeDiff, Int.reduceToNat, Int.reduceLT, Int.reduceLE, Int.reduceEq, Int.reduceNeg, Int.reduceAdd, Int.reduceSub, Int.reduceMul]
  exact FinOk.drop (.inl rfl) (by simp [underL, underD]) ⟨rfl, rfl⟩

/-! ### Rules in a slice -/
theorem flat_at {sz : Nat} : ∀ {ls : List (List D)} {k : Nat} {c : List D}, (∀ x ∈ ls, x.length = sz) → ls[k]? = some c → (ls.flatten.drop (k * sz)).take sz = c
  | [], k, c, _, h => by simp at h
  | x :: ls, 0, c, hl, h => by
    simp only [List.getElem?_cons_zero, Option.some.injEq] at h
    subst h
    have := hl x (by simp)
    simp only [List.flatten_cons, Nat.zero_mul, List.drop_zero]
    rw [List.take_append_of_le_length (by omega), List.take_of_length_le (by omega)]
  | x :: ls, k + 1, c, hl, h => by
    have hx := hl x (by simp)
    simp only [List.getElem?_cons_succ] at h
    have := flat_at (fun y hy => hl y (by simp [hy])) h
    rw [List.flatten_cons, Nat.succ_mul, show k * sz + sz = sz + k * sz by omega, ← List.drop_drop, show (x ++ ls.flatten).drop sz = ls.flatten by rw [← hx]; exact List.drop_left]
    exact this
theorem sl_load {h : Heap} {sz : Nat} {d : D} {cs : List D} {n : Nat} (hd : SlOf h sz d cs n) {k : IntKind} {i : Nat} (h1 : i < n) :
    ∃ p cs', elemAddr h sz d (.int k (i : Int)) = some p ∧ ptrCells h p = some cs' ∧ sz ≤ cs'.length ∧ cs'.take sz = (cs.drop (i * sz)).take sz := by
  obtain ⟨p, cs', e1, e2, e3⟩ := hd.elem (k := k) (i := (i : Int)) (by omega) (by omega)
  have hl := hd.len
  have hm : i * sz + sz ≤ n * sz := by
    have := Nat.mul_le_mul_right sz (show i + 1 ≤ n by omega)
    rw [Nat.add_mul] at this; omega
  simp only [Int.toNat_natCast] at e3
  have e4 : cs'.take sz = (cs.drop (i * sz)).take sz := by
    apply List.ext_getElem?
    intro x
    rw [List.getElem?_take, List.getElem?_take]
    by_cases hx : x < sz
    · rw [if_pos hx, if_pos hx, e3 x hx, List.getElem?_drop]
    · rw [if_neg hx, if_neg hx]
  refine ⟨p, cs', e1, e2, ?_, e4⟩
  have e5 := congrArg List.length e4
  simp only [List.length_take, List.length_drop, hl] at e5
  omega
def rusC (rs : List Ru) : List D := (rs.map ru).flatten
theorem rus_at {rs : List Ru} (hok : ∀ r ∈ rs, r.Ok) {k : Nat} {r : Ru} (hr : rs[k]? = some r) : ((rusC rs).drop (k * 43)).take 43 = ru r := by
  refine flat_at (fun x hx => ?_) (by rw [List.getElem?_map, hr]; rfl)
  obtain ⟨y, hy, rfl⟩ := List.mem_map.1 hx
  exact ru_len (hok y hy)
/-- May all be? -/
def allOk (rs : List Ru) : Bool := rs.all fun r => decide (ruChk r = 0)
theorem right1_fc (h : Heap) (r : Ru) (ok : r.Ok) : FC Try.prog 72 [.agg (ru r)] h fun d h' => d = .bool (!decide (ruChk r = 0)) ∧ h' = h := by
  refine FC.goes cf72 ?_; simp only [c72]; simp only [List.length_cons, List.length_nil, Nat.reduceAdd, Nat.reduceSub, List.replicate_succ, List.replicate_zero, List.cons_append, List.nil_append]
  simp (disch := first | omega | (simp only [List.length_append, List.length_cons, List.length_nil]; omega)) only [c72r0, c72r1, ru_len, ru_one, ru_take, ok, go_sem, fill_c, ↓reduceIte, reduceCtorEq, Nat.reduceAdd, Nat.reduceSub, Nat.reducePow, Nat.reduceMul, Nat.reduceEqDiff, Nat.reduceLT, Nat.reduceLeDiff, Int.reduceToNat, Int.reduceLT, Int.reduceLE, Int.reduceEq, Int.reduceNeg, Int.reduceAdd, Int.reduceSub, Int.reduceMul]
  refine gfc_same (rcheckP_fc _ r ok) ?_
  by_cases hc : ruChk r = 0
  · have e0 : decide (ruChk r = 0) = true := decide_eq_true hc
    simp (disch := first | omega | (simp only [List.length_append, List.length_cons, List.length_nil]; omega)) only [e0, go_sem, fill_c, ↓reduceIte, reduceCtorEq, Nat.reduceAdd, Nat.reduceSub, Nat.reducePow, Nat.reduceMul, Nat.reduceEqDiff, Nat.reduceLT, Nat.reduceLeDiff, Int.reduceToNat, Int.reduceLT, Int.reduceLE, Int.reduceEq, Int.reduceNeg, Int.reduceAdd, Int.reduceSub, Int.reduceMul]
    exact FinOk.drop (.inl rfl) (by simp [underL, underD]) ⟨rfl, rfl⟩
  · simp (disch := first | omega | (simp only [List.length_append, List.length_cons, List.length_nil]; omega)) only [hc, go_sem, fill_c, ↓reduceIte, reduceCtorEq, Nat.reduceAdd, Nat.reduceSub, Nat.reducePow, Nat.reduceMul, Nat.reduceEqDiff, Nat.reduceLT, Nat.reduceLeDiff, Int.reduceToNat, Int.reduceLT, Int.reduceLE, Int.reduceEq, Int.reduceNeg, Int.reduceAdd, Int.reduceSub, Int.reduceMul]
    exact FinOk.drop (.inl rfl) (by simp [underL, underD]) ⟨rfl, rfl⟩
theorem idxfunc_fc (h : Heap) (x : D) (rs : List Ru) (hok : ∀ r ∈ rs, r.Ok) (hx : SlOf h 43 x (rusC rs) rs.length) (hlen : rs.length ≤ 1048576) :
    FC Try.prog 93 [x, .fn (.func 72) [] []] h fun d h' => (∃ i : Int, d = .int .i64 i ∧ decide (0 ≤ i) = !allOk rs) ∧ h' = h := by
  refine FC.goes cf93 ?_; simp only [c93]; simp only [List.length_cons, List.length_nil, Nat.reduceAdd, Nat.reduceSub, List.replicate_succ, List.replicate_zero, List.cons_append, List.nil_append]
  simp (disch := first | omega | (simp only [List.length_append, List.length_cons, List.length_nil]; omega)) only [c93r0, c93r1, c93r2, c93r3, c93r4, c93r5, c93r6, c93l7, c93r8, hx.lend, hx.sort, go_sem, fill_c, ↓reduceIte, reduceCtorEq, Nat.reduceAdd, Nat.reduceSub, Nat.reducePow, Nat.reduceMul, Nat.reduceEqDiff, Nat.reduceLT, Nat.reduceLeDiff, Int.reduceToNat, Int.reduceLT, Int.reduceLE, Int.reduceEq, Int.reduceNeg, Int.reduceAdd, Int.reduceSub, Int.reduceMul]
  refine loop_to rs.length (fun k st => allOk (rs.take k) = true ∧ ∃ (j : Nat → D), st = ⟨(x :: .fn (.func 72) [] [] :: j 2 :: j 3 :: j 4 :: j 5 :: x :: .int .i64 (rs.length : Int) :: .int .i64 (k : Int) :: j 9 :: j 10 :: j 11 :: j 12 :: j 13 :: j 14 :: j 15 :: j 16 :: j 17 :: j 18 :: []), h⟩) ⟨rfl, junk rfl⟩ ?_
  rintro k st hk ⟨hall, j, rfl⟩
  by_cases hkn : k < rs.length
  · have hkn' : (k : Int) < rs.length := by omega
    obtain ⟨r, hr⟩ : ∃ r, rs[k]? = some r := ⟨_, List.getElem?_eq_getElem hkn⟩
    have rok := hok r (List.mem_iff_getElem?.2 ⟨k, hr⟩)
    obtain ⟨p, cs, e1, e2, e3, e4⟩ := sl_load hx (k := .i64) hkn
    rw [rus_at hok hr] at e4
    simp (disch := first | omega | (simp only [List.length_append, List.length_cons, List.length_nil]; omega)) only [c93r0, c93r1, c93r2, c93r3, c93r4, c93r5, c93r6, c93l7, c93r8, hkn', e1, e2, e3, e4, go_sem, fill_c, ↓reduceIte, reduceCtorEq, Nat.reduceAdd, Nat.reduceSub, Nat.reducePow, Nat.reduceMul, Nat.reduceEqDiff, Nat.reduceLT, Nat.reduceLeDiff, Int.reduceToNat, Int.reduceLT, Int.reduceLE, Int.reduceEq, Int.reduceNeg, Int.reduceAdd, Int.reduceSub, Int.reduceMul]
    refine gfc_same (right1_fc _ r rok) ?_
    by_cases hc : ruChk r = 0
    · have e0 : decide (ruChk r = 0) = true := decide_eq_true hc
      simp (disch := first | omega | (simp only [List.length_append, List.length_cons, List.length_nil]; omega)) only [e0, go_sem, fill_c, ↓reduceIte, reduceCtorEq, Nat.reduceAdd, Nat.reduceSub, Nat.reducePow, Nat.reduceMul, Nat.reduceEqDiff, Nat.reduceLT, Nat.reduceLeDiff, Int.reduceToNat, Int.reduceLT, Int.reduceLE, Int.reduceEq, Int.reduceNeg, Int.reduceAdd, Int.reduceSub, Int.reduceMul]
      refine ⟨hkn, ?_, ?_⟩
      · rw [List.take_add_one, hr, Option.toList_some, allOk, List.all_append]
        rw [allOk] at hall
        rw [hall]; simp [hc]
      · exact junk rfl
    · have e0 : decide (ruChk r = 0) = false := decide_eq_false hc
      simp (disch := first | omega | (simp only [List.length_append, List.length_cons, List.length_nil]; omega)) only [e0, go_sem, fill_c, ↓reduceIte, reduceCtorEq, Nat.reduceAdd, Nat.reduceSub, Nat.reducePow, Nat.reduceMul, Nat.reduceEqDiff, Nat.reduceLT, Nat.reduceLeDiff, Int.reduceToNat, Int.reduceLT, Int.reduceLE, Int.reduceEq, Int.reduceNeg, Int.reduceAdd, Int.reduceSub, Int.reduceMul]
      refine FinOk.all ⟨⟨_, rfl, ?_⟩, rfl⟩
      have : allOk rs = false := by
        rw [Bool.eq_false_iff]
        intro ha
        rw [allOk, List.all_eq_true] at ha
        exact hc (by simpa using ha r (List.mem_iff_getElem?.2 ⟨k, hr⟩))
      rw [this]; simp
  · have : k = rs.length := by omega
    subst this
    simp (disch := first | omega | (simp only [List.length_append, List.length_cons, List.length_nil]; omega)) only [c93r0, c93r1, c93r2, c93r3, c93r4, c93r5, c93r6, c93l7, c93r8, Int.lt_irrefl, go_sem, fill_c, ↓reduceIte, reduceCtorEq, Nat.reduceAdd, Nat.reduceSub, Nat.reducePow, Nat.reduceMul, Nat.reduceEqDiff, Nat.reduceLT, Nat.reduceLeDiff, Int.reduceToNat, Int.reduceLT, Int.reduceLE, Int.reduceEq, Int.reduceNeg, Int.reduceAdd, Int.reduceSub, Int.reduceMul]
    refine FinOk.all ⟨⟨_, rfl, ?_⟩, rfl⟩
    rw [List.take_length] at hall
    rw [hall]; rfl
theorem right_ok_fc (h : Heap) (x : D) (rs : List Ru) (hok : ∀ r ∈ rs, r.Ok) (hx : SlOf h 43 x (rusC rs) rs.length) (hlen : rs.length ≤ 1048576) :
    FC Try.prog 38 [x] h fun d h' => d = .bool (allOk rs) ∧ h' = h := by
  have contains : ∀ h, SlOf h 43 x (rusC rs) rs.length → FC Try.prog 71 [x, .fn (.func 72) [] []] h fun d h' => d = .bool (!allOk rs) ∧ h' = h := by
    intro h hx
    refine FC.goes cf71 ?_; simp only [c71]; simp only [List.length_cons, List.length_nil, Nat.reduceAdd, Nat.reduceSub, List.replicate_succ, List.replicate_zero, List.cons_append, List.nil_append]
    simp (disch := first | omega | (simp only [List.length_append, List.length_cons, List.length_nil]; omega)) only [c71r0, c71r1, go_sem, fill_c, ↓reduceIte, reduceCtorEq, Nat.reduceAdd, Nat.reduceSub, Nat.reducePow, Nat.reduceMul, Nat.reduceEqDiff, Nat.reduceLT, Nat.reduceLeDiff, Int.reduceToNat, Int.reduceLT, Int.reduceLE, Int.reduceEq, Int.reduceNeg, Int.reduceAdd, Int.reduceSub, Int.reduceMul]
    refine gfc_of (idxfunc_fc _ x rs hok hx hlen) ?_
    rintro d h' ⟨⟨i, rfl, hi⟩, rfl⟩
    simp (disch := first | omega | (simp only [List.length_append, List.length_cons, List.length_nil]; omega)) only [go_sem, fill_c, ↓reduceIte, reduceCtorEq, Nat.reduceAdd, Nat.reduceSub, Nat.reducePow, Nat.reduceMul, Nat.reduceEqDiff, Nat.reduceLT, Nat.reduceLeDiff, Int.reduceToNat, Int.reduceLT, Int.reduceLE, Int.reduceEq, Int.reduceNeg, Int.reduceAdd, Int.reduceSub, Int.reduceMul]
    exact FinOk.all ⟨by rw [hi]; rfl, rfl⟩
  refine FC.goes cf38 ?_; simp only [c38]; simp only [List.length_cons, List.length_nil, Nat.reduceAdd, Nat.reduceSub, List.replicate_succ, List.replicate_zero, List.cons_append, List.nil_append]
  simp (disch := first | omega | (simp only [List.length_append, List.length_cons, List.length_nil]; omega)) only [c38r0, c38r1, go_sem, fill_c, ↓reduceIte, reduceCtorEq, Nat.reduceAdd, Nat.reduceSub, Nat.reducePow, Nat.reduceMul, Nat.reduceEqDiff, Nat.reduceLT, Nat.reduceLeDiff, Int.reduceToNat, Int.reduceLT, Int.reduceLE, Int.reduceEq, Int.reduceNeg, Int.reduceAdd, Int.reduceSub, Int.reduceMul]
  refine gfc_same (contains _ hx) ?_
  simp (disch := first | omega | (simp only [List.length_append, List.length_cons, List.length_nil]; omega)) only [Bool.not_not, go_sem, fill_c, ↓reduceIte, reduceCtorEq, Nat.reduceAdd, Nat.reduceSub, Nat.reducePow, Nat.reduceMul, Nat.reduceEqDiff, Nat.reduceLT, Nat.reduceLeDiff, Int.reduceToNat, Int.reduceLT, Int.reduceLE, Int.reduceEq, Int.reduceNeg, Int.reduceAdd, Int.reduceSub, Int.reduceMul]
  exact FinOk.all ⟨rfl, rfl⟩
/-- What two rules make in a slice. -/
theorem ru_fill1 {r : Ru} (ok : r.Ok) {z : List D} (hz : z.length = 43) : fillD z [(0, 43, .agg (ru r))] = some (ru r) := by
  rw [fillD, if_pos ⟨by simp only [List.all_cons, List.all_nil, Bool.and_true, laid]; exact (ru_one (by assumption)), by simpa [vcells] using ru_len ok, by omega⟩]
  rw [splice_eq _ _ _ (by simp only [vcells, ru_len ok]; omega)]
  simp only [vcells, ru_len ok, List.take_zero, List.nil_append, Nat.zero_add]
  rw [List.drop_of_length_le (by omega), List.append_nil]; rfl
theorem ru_fill2 {a b : Ru} (ha : a.Ok) (hb : b.Ok) {z : List D} (hz : z.length = 86) : fillD z [(0, 43, .agg (ru a)), (43, 43, .agg (ru b))] = some (ru a ++ ru b) := by
  have la := ru_len ha
  have lb := ru_len hb
  rw [fillD, if_pos ⟨by simp only [List.all_cons, List.all_nil, Bool.and_true, laid]; exact (ru_one (by assumption)), by simpa [vcells] using la, by omega⟩]
  have e1 : splice z 0 (vcells (.agg (ru a))) = ru a ++ z.drop 43 := by
    rw [splice_eq _ _ _ (by simp only [vcells]; omega)]
    simp only [vcells, la, List.take_zero, List.nil_append, Nat.zero_add]
  rw [e1, fillD, if_pos ⟨by simp only [List.all_cons, List.all_nil, Bool.and_true, laid]; exact (ru_one (by assumption)), by simpa [vcells] using lb, by rw [List.length_append, List.length_drop]; omega⟩]
  rw [splice_eq _ _ _ (by simp only [vcells, List.length_append, List.length_drop]; omega)]
  simp only [vcells, lb]
  rw [List.take_append_of_le_length (by omega), List.take_of_length_le (by omega), List.drop_of_length_le (by simp only [List.length_append, List.length_drop]; omega), List.append_nil]; rfl
theorem rus_one {h : Heap} {a : Ru} (ha : a.Ok) {r : Nat} (hb : h[r]? = some (.grow 43 (ru a) 1)) : SlOf h 43 (.own r 1) (rusC [a]) [a].length := by
  have : rusC [a] = ru a := by simp [rusC]
  rw [this]; exact own_of hb (by rw [ru_len ha])
theorem rus_two {h : Heap} {a b : Ru} (ha : a.Ok) (hb : b.Ok) {r : Nat} (hr : h[r]? = some (.grow 43 (ru a ++ ru b) 2)) : SlOf h 43 (.own r 2) (rusC [a, b]) [a, b].length := by
  have : rusC [a, b] = ru a ++ ru b := by simp [rusC]
  rw [this]; exact own_of hr (by rw [List.length_append, ru_len ha, ru_len hb])
/-- Both may be. -/
def bothOk (a b : Ru) : Bool := decide (ruChk a = 0) && decide (ruChk b = 0)
theorem allOk_two (a b : Ru) : allOk [a, b] = bothOk a b := by simp [allOk, bothOk]
theorem allOk_one (a : Ru) : allOk [a] = decide (ruChk a = 0) := by simp [allOk]

/-- Does a span ask no more than another one? -/
def widerF (alo ahi blo bhi : Int) : Bool := (alo == 0 && ahi == 65535) || (!(blo == 0 && bhi == 65535) && (decide (alo ≤ blo) && decide (bhi ≤ ahi)))
theorem wider_fc (h : Heap) (a b c d : Int) : FC Try.prog 40 [.agg [.int .i64 a, .int .i64 b], .agg [.int .i64 c, .int .i64 d]] h fun r h' => r = .bool (widerF a b c d) ∧ h' = h := by
  refine FC.goes cf40 ?_; simp only [c40]; simp only [List.length_cons, List.length_nil, Nat.reduceAdd, Nat.reduceSub, List.replicate_succ, List.replicate_zero, List.cons_append, List.nil_append]
  simp (disch := first | omega | (simp only [List.length_append, List.length_cons, List.length_nil]; omega)) only [c40r0, c40r1, c40r2, go_sem, fill_c, ↓reduceIte, reduceCtorEq, Nat.reduceAdd, Nat.reduceSub, Nat.reducePow, Nat.reduceMul, Nat.reduceEqDiff, Nat.reduceLT, Nat.reduceLeDiff, Int.reduceToNat, Int.reduceLT, Int.reduceLE, Int.reduceEq, Int.reduceNeg, Int.reduceAdd, Int.reduceSub, Int.reduceMul]
  refine xfc_same (sall_fc _) ?_
  cases hA : (a == 0 && b == 65535) with
  | true =>
    have e : widerF a b c d = true := by rw [widerF, hA]; rfl
    rw [e]
    simp (disch := first | omega | (simp only [List.length_append, List.length_cons, List.length_nil]; omega)) only [hA, go_sem, fill_c, ↓reduceIte, reduceCtorEq, Nat.reduceAdd, Nat.reduceSub, Nat.reducePow, Nat.reduceMul, Nat.reduceEqDiff, Nat.reduceLT, Nat.reduceLeDiff, Int.reduceToNat, Int.reduceLT, Int.reduceLE, Int.reduceEq, Int.reduceNeg, Int.reduceAdd, Int.reduceSub, Int.reduceMul]
    exact FinOk.drop (.inl rfl) (by simp [underL, underD]) ⟨rfl, rfl⟩
  | false =>
    have e : widerF a b c d = (!(c == 0 && d == 65535) && (decide (a ≤ c) && decide (d ≤ b))) := by rw [widerF, hA]; rfl
    rw [e]
    simp (disch := first | omega | (simp only [List.length_append, List.length_cons, List.length_nil]; omega)) only [hA, go_sem, fill_c, ↓reduceIte, reduceCtorEq, Nat.reduceAdd, Nat.reduceSub, Nat.reducePow, Nat.reduceMul, Nat.reduceEqDiff, Nat.reduceLT, Nat.reduceLeDiff, Int.reduceToNat, Int.reduceLT, Int.reduceLE, Int.reduceEq, Int.reduceNeg, Int.reduceAdd, Int.reduceSub, Int.reduceMul]
    refine xfc_same (sall_fc _) ?_
    cases hB : (c == 0 && d == 65535) with
    | true =>
      simp (disch := first | omega | (simp only [List.length_append, List.length_cons, List.length_nil]; omega)) only [hB, go_sem, fill_c, ↓reduceIte, reduceCtorEq, Nat.reduceAdd, Nat.reduceSub, Nat.reducePow, Nat.reduceMul, Nat.reduceEqDiff, Nat.reduceLT, Nat.reduceLeDiff, Int.reduceToNat, Int.reduceLT, Int.reduceLE, Int.reduceEq, Int.reduceNeg, Int.reduceAdd, Int.reduceSub, Int.reduceMul]
      exact FinOk.drop (.inl rfl) (by simp [underL, underD]) ⟨rfl, rfl⟩
    | false =>
      simp (disch := first | omega | (simp only [List.length_append, List.length_cons, List.length_nil]; omega)) only [hB, go_sem, fill_c, ↓reduceIte, reduceCtorEq, Nat.reduceAdd, Nat.reduceSub, Nat.reducePow, Nat.reduceMul, Nat.reduceEqDiff, Nat.reduceLT, Nat.reduceLeDiff, Int.reduceToNat, Int.reduceLT, Int.reduceLE, Int.reduceEq, Int.reduceNeg, Int.reduceAdd, Int.reduceSub, Int.reduceMul]
      by_cases h1 : a ≤ c
      · simp (disch := first | omega | (simp only [List.length_append, List.length_cons, List.length_nil]; omega)) only [hB, h1, go_sem, fill_c, ↓reduceIte, reduceCtorEq, Nat.reduceAdd, Nat.reduceSub, Nat.reducePow, Nat.reduceMul, Nat.reduceEqDiff, Nat.reduceLT, Nat.reduceLeDiff, Int.reduceToNat, Int.reduceLT, Int.reduceLE, Int.reduceEq, Int.reduceNeg, Int.reduceAdd, Int.reduceSub, Int.reduceMul]
        exact FinOk.drop (.inl rfl) (by simp [underL, underD]) ⟨rfl, rfl⟩
      · simp (disch := first | omega | (simp only [List.length_append, List.length_cons, List.length_nil]; omega)) only [hB, h1, Bool.false_and, go_sem, fill_c, ↓reduceIte, reduceCtorEq, Nat.reduceAdd, Nat.reduceSub, Nat.reducePow, Nat.reduceMul, Nat.reduceEqDiff, Nat.reduceLT, Nat.reduceLeDiff, Int.reduceToNat, Int.reduceLT, Int.reduceLE, Int.reduceEq, Int.reduceNeg, Int.reduceAdd, Int.reduceSub, Int.reduceMul]
        exact FinOk.drop (.inl rfl) (by simp [underL, underD]) ⟨rfl, rfl⟩
theorem cwish_fc (h : Heap) (w n : Int) : FC Try.prog 39 [.int .i64 w, .int .i64 n] h fun d h' => d = .bool (wishOk w n) ∧ h' = h := by
  refine FC.goes cf39 ?_; simp only [c39]; simp only [List.length_cons, List.length_nil, Nat.reduceAdd, Nat.reduceSub, List.replicate_succ, List.replicate_zero, List.cons_append, List.nil_append]
  by_cases h0 : w = -1
  · have e : decide (w = -1) = true := decide_eq_true h0
    simp (disch := first | omega | (simp only [List.length_append, List.length_cons, List.length_nil]; omega)) only [c39r0, c39r1, e, Bool.true_or, wishOk, go_sem, fill_c, ↓reduceIte, reduceCtorEq, Nat.reduceAdd, Nat.reduceSub, Nat.reducePow, Nat.reduceMul, Nat.reduceEqDiff, Nat.reduceLT, Nat.reduceLeDiff, Int.reduceToNat, Int.reduceLT, Int.reduceLE, Int.reduceEq, Int.reduceNeg, Int.reduceAdd, Int.reduceSub, Int.reduceMul]
    exact FinOk.all ⟨rfl, rfl⟩
  · simp (disch := first | omega | (simp only [List.length_append, List.length_cons, List.length_nil]; omega)) only [c39r0, c39r1, h0, Bool.false_or, wishOk, go_sem, fill_c, ↓reduceIte, reduceCtorEq, Nat.reduceAdd, Nat.reduceSub, Nat.reducePow, Nat.reduceMul, Nat.reduceEqDiff, Nat.reduceLT, Nat.reduceLeDiff, Int.reduceToNat, Int.reduceLT, Int.reduceLE, Int.reduceEq, Int.reduceNeg, Int.reduceAdd, Int.reduceSub, Int.reduceMul]
    exact FinOk.all ⟨rfl, rfl⟩

/-- Does a rule match all keys that another one matches? -/
def coversF (a b : Ru) : Bool := bothOk a b && (withinF b.sv b.sa b.sn a.sv a.sa a.sn && (withinF b.dv b.da b.dn a.dv a.da a.dn &&
  (widerF a.slo a.shi b.slo b.shi && (widerF a.dlo a.dhi b.dlo b.dhi && (wishOk a.proto b.proto && wishOk a.dscp b.dscp)))))
theorem covers_fc (h : Heap) (a b : Ru) (oa : a.Ok) (ob : b.Ok) : FC Try.prog 9 [.agg (ru a), .agg (ru b)] h fun d h' => d = .bool (coversF a b) ∧ h' = h := by
  have la := ru_len oa
  have lb := ru_len ob
  refine FC.goes cf9 ?_; simp only [c9]; simp only [List.length_cons, List.length_nil, Nat.reduceAdd, Nat.reduceSub, List.replicate_succ, List.replicate_zero, List.cons_append, List.nil_append]
  simp (disch := first | omega | (simp only [List.length_append, List.length_cons, List.length_nil]; omega)) only [c9r0, c9r1, c9r2, c9r3, c9r4, la, lb, ru_one, ru_take, oa, ob, go_sem, ↓reduceIte, reduceCtorEq, Nat.reduceAdd, Nat.reduceSub, Nat.reducePow, Nat.reduceMul, Nat.reduceEqDiff, Nat.reduceLT, Nat.reduceLeDiff, Int.reduceToNat, Int.reduceLT, Int.reduceLE, Int.reduceEq, Int.reduceNeg, Int.reduceAdd, Int.reduceSub, Int.reduceMul]
  rw [ru_fill2 oa ob rfl]
  simp (disch := first | omega | (simp only [List.length_append, List.length_cons, List.length_nil]; omega)) only [go_sem, fill_c, ↓reduceIte, reduceCtorEq, Nat.reduceAdd, Nat.reduceSub, Nat.reducePow, Nat.reduceMul, Nat.reduceEqDiff, Nat.reduceLT, Nat.reduceLeDiff, Int.reduceToNat, Int.reduceLT, Int.reduceLE, Int.reduceEq, Int.reduceNeg, Int.reduceAdd, Int.reduceSub, Int.reduceMul]
  refine gfc_same (right_ok_fc _ _ [a, b] (by simp [oa, ob]) (rus_two oa ob (by simp (disch := first | omega | (simp only [List.length_append, List.length_cons, List.length_nil]; omega)) only [go_sem, fill_c, ↓reduceIte, reduceCtorEq, Nat.reduceAdd, Nat.reduceSub, Nat.reducePow, Nat.reduceMul, Nat.reduceEqDiff, Nat.reduceLT, Nat.reduceLeDiff, Int.reduceToNat, Int.reduceLT, Int.reduceLE, Int.reduceEq, Int.reduceNeg, Int.reduceAdd, Int.reduceSub, Int.reduceMul])) (by simp)) ?_
  rw [allOk_two]
  cases h1 : bothOk a b with
  | false =>
    have e : coversF a b = false := by rw [coversF, h1]; rfl
    rw [e]
    simp (disch := first | omega | (simp only [List.length_append, List.length_cons, List.length_nil]; omega)) only [go_sem, fill_c, ↓reduceIte, reduceCtorEq, Nat.reduceAdd, Nat.reduceSub, Nat.reducePow, Nat.reduceMul, Nat.reduceEqDiff, Nat.reduceLT, Nat.reduceLeDiff, Int.reduceToNat, Int.reduceLT, Int.reduceLE, Int.reduceEq, Int.reduceNeg, Int.reduceAdd, Int.reduceSub, Int.reduceMul]
    exact FinOk.drop (.inl rfl) (by simp [underL, underD]) ⟨rfl, rfl⟩
  | true =>
    simp (disch := first | omega | (simp only [List.length_append, List.length_cons, List.length_nil]; omega)) only [la, lb, ru_s, ru_d, ru_l18, oa, ob, go_sem, fill_c, ↓reduceIte, reduceCtorEq, Nat.reduceAdd, Nat.reduceSub, Nat.reducePow, Nat.reduceMul, Nat.reduceEqDiff, Nat.reduceLT, Nat.reduceLeDiff, Int.reduceToNat, Int.reduceLT, Int.reduceLE, Int.reduceEq, Int.reduceNeg, Int.reduceAdd, Int.reduceSub, Int.reduceMul]
    refine gfc_same (pwithin_fc _ b.sv b.sn a.sv a.sn b.sa a.sa ob.s oa.s) ?_
    cases h2 : withinF b.sv b.sa b.sn a.sv a.sa a.sn with
    | false =>
      have e : coversF a b = false := by rw [coversF, h1, h2]; rfl
      rw [e]
      simp (disch := first | omega | (simp only [List.length_append, List.length_cons, List.length_nil]; omega)) only [go_sem, fill_c, ↓reduceIte, reduceCtorEq, Nat.reduceAdd, Nat.reduceSub, Nat.reducePow, Nat.reduceMul, Nat.reduceEqDiff, Nat.reduceLT, Nat.reduceLeDiff, Int.reduceToNat, Int.reduceLT, Int.reduceLE, Int.reduceEq, Int.reduceNeg, Int.reduceAdd, Int.reduceSub, Int.reduceMul]
      exact FinOk.drop (.inl rfl) (by simp [underL, underD]) ⟨rfl, rfl⟩
    | true =>
      simp (disch := first | omega | (simp only [List.length_append, List.length_cons, List.length_nil]; omega)) only [la, lb, ru_s, ru_d, ru_l18, oa, ob, go_sem, fill_c, ↓reduceIte, reduceCtorEq, Nat.reduceAdd, Nat.reduceSub, Nat.reducePow, Nat.reduceMul, Nat.reduceEqDiff, Nat.reduceLT, Nat.reduceLeDiff, Int.reduceToNat, Int.reduceLT, Int.reduceLE, Int.reduceEq, Int.reduceNeg, Int.reduceAdd, Int.reduceSub, Int.reduceMul]
      refine gfc_same (pwithin_fc _ b.dv b.dn a.dv a.dn b.da a.da ob.d oa.d) ?_
      cases h3 : withinF b.dv b.da b.dn a.dv a.da a.dn with
      | false =>
        have e : coversF a b = false := by rw [coversF, h1, h2, h3]; rfl
        rw [e]
        simp (disch := first | omega | (simp only [List.length_append, List.length_cons, List.length_nil]; omega)) only [go_sem, fill_c, ↓reduceIte, reduceCtorEq, Nat.reduceAdd, Nat.reduceSub, Nat.reducePow, Nat.reduceMul, Nat.reduceEqDiff, Nat.reduceLT, Nat.reduceLeDiff, Int.reduceToNat, Int.reduceLT, Int.reduceLE, Int.reduceEq, Int.reduceNeg, Int.reduceAdd, Int.reduceSub, Int.reduceMul]
        exact FinOk.drop (.inl rfl) (by simp [underL, underD]) ⟨rfl, rfl⟩
      | true =>
        have e : coversF a b = (widerF a.slo a.shi b.slo b.shi && (widerF a.dlo a.dhi b.dlo b.dhi && (wishOk a.proto b.proto && wishOk a.dscp b.dscp))) := by rw [coversF, h1, h2, h3]; rfl
        rw [e]
        simp (disch := first | omega | (simp only [List.length_append, List.length_cons, List.length_nil]; omega)) only [ru_d36, ru_d38, ruT, oa, ob, go_sem, fill_c, ↓reduceIte, reduceCtorEq, Nat.reduceAdd, Nat.reduceSub, Nat.reducePow, Nat.reduceMul, Nat.reduceEqDiff, Nat.reduceLT, Nat.reduceLeDiff, Int.reduceToNat, Int.reduceLT, Int.reduceLE, Int.reduceEq, Int.reduceNeg, Int.reduceAdd, Int.reduceSub, Int.reduceMul]
        refine gfc_same (wider_fc _ _ _ _ _) ?_
        cases widerF a.slo a.shi b.slo b.shi with
        | false =>
          simp (disch := first | omega | (simp only [List.length_append, List.length_cons, List.length_nil]; omega)) only [Bool.false_and, go_sem, fill_c, ↓reduceIte, reduceCtorEq, Nat.reduceAdd, Nat.reduceSub, Nat.reducePow, Nat.reduceMul, Nat.reduceEqDiff, Nat.reduceLT, Nat.reduceLeDiff, Int.reduceToNat, Int.reduceLT, Int.reduceLE, Int.reduceEq, Int.reduceNeg, Int.reduceAdd, Int.reduceSub, Int.reduceMul]
          exact FinOk.drop (.inl rfl) (by simp [underL, underD]) ⟨rfl, rfl⟩
        | true =>
          simp (disch := first | omega | (simp only [List.length_append, List.length_cons, List.length_nil]; omega)) only [ru_d36, ru_d38, ruT, oa, ob, go_sem, fill_c, ↓reduceIte, reduceCtorEq, Nat.reduceAdd, Nat.reduceSub, Nat.reducePow, Nat.reduceMul, Nat.reduceEqDiff, Nat.reduceLT, Nat.reduceLeDiff, Int.reduceToNat, Int.reduceLT, Int.reduceLE, Int.reduceEq, Int.reduceNeg, Int.reduceAdd, Int.reduceSub, Int.reduceMul]
          refine gfc_same (wider_fc _ _ _ _ _) ?_
          cases widerF a.dlo a.dhi b.dlo b.dhi with
          | false =>
            simp (disch := first | omega | (simp only [List.length_append, List.length_cons, List.length_nil]; omega)) only [Bool.false_and, go_sem, fill_c, ↓reduceIte, reduceCtorEq, Nat.reduceAdd, Nat.reduceSub, Nat.reducePow, Nat.reduceMul, Nat.reduceEqDiff, Nat.reduceLT, Nat.reduceLeDiff, Int.reduceToNat, Int.reduceLT, Int.reduceLE, Int.reduceEq, Int.reduceNeg, Int.reduceAdd, Int.reduceSub, Int.reduceMul]
            exact FinOk.drop (.inl rfl) (by simp [underL, underD]) ⟨rfl, rfl⟩
          | true =>
            simp (disch := first | omega | (simp only [List.length_append, List.length_cons, List.length_nil]; omega)) only [ru_d40, ruT, oa, ob, go_sem, fill_c, ↓reduceIte, reduceCtorEq, Nat.reduceAdd, Nat.reduceSub, Nat.reducePow, Nat.reduceMul, Nat.reduceEqDiff, Nat.reduceLT, Nat.reduceLeDiff, Int.reduceToNat, Int.reduceLT, Int.reduceLE, Int.reduceEq, Int.reduceNeg, Int.reduceAdd, Int.reduceSub, Int.reduceMul]
            refine gfc_same (cwish_fc _ _ _) ?_
            cases wishOk a.proto b.proto with
            | false =>
              simp (disch := first | omega | (simp only [List.length_append, List.length_cons, List.length_nil]; omega)) only [Bool.false_and, go_sem, fill_c, ↓reduceIte, reduceCtorEq, Nat.reduceAdd, Nat.reduceSub, Nat.reducePow, Nat.reduceMul, Nat.reduceEqDiff, Nat.reduceLT, Nat.reduceLeDiff, Int.reduceToNat, Int.reduceLT, Int.reduceLE, Int.reduceEq, Int.reduceNeg, Int.reduceAdd, Int.reduceSub, Int.reduceMul]
              exact FinOk.drop (.inl rfl) (by simp [underL, underD]) ⟨rfl, rfl⟩
            | true =>
              simp (disch := first | omega | (simp only [List.length_append, List.length_cons, List.length_nil]; omega)) only [ru_d41, ruT, oa, ob, go_sem, fill_c, ↓reduceIte, reduceCtorEq, Nat.reduceAdd, Nat.reduceSub, Nat.reducePow, Nat.reduceMul, Nat.reduceEqDiff, Nat.reduceLT, Nat.reduceLeDiff, Int.reduceToNat, Int.reduceLT, Int.reduceLE, Int.reduceEq, Int.reduceNeg, Int.reduceAdd, Int.reduceSub, Int.reduceMul]
              refine gfc_same (cwish_fc _ _ _) ?_
              simp (disch := first | omega | (simp only [List.length_append, List.length_cons, List.length_nil]; omega)) only [go_sem, fill_c, ↓reduceIte, reduceCtorEq, Nat.reduceAdd, Nat.reduceSub, Nat.reducePow, Nat.reduceMul, Nat.reduceEqDiff, Nat.reduceLT, Nat.reduceLeDiff, Int.reduceToNat, Int.reduceLT, Int.reduceLE, Int.reduceEq, Int.reduceNeg, Int.reduceAdd, Int.reduceSub, Int.reduceMul]
              exact FinOk.drop (.inl rfl) (by simp [underL, underD]) ⟨rfl, rfl⟩

/-! ### A meeting -/
theorem set_same {h : Heap} {r : Nat} {b : Blk} (hb : h[r]? = some b) : h.set r b = h := by
  apply List.ext_getElem?
  intro i
  rw [List.getElem?_set]
  split
  · rename_i e; subst e
    rw [if_pos (List.getElem?_eq_some_iff.1 hb).1, hb]
  · rfl
theorem address_fc (h : Heap) (r : Nat) (q : Bool) (hb : h[r]? = some (.box [.bool q])) (v n w m : Int) (a b : List UInt8) (ha : a.length = 16) (hbl : b.length = 16) :
    FC Try.prog 41 [.ref r 0, .agg (pc v a n), .agg (pc w b m)] h fun d h' => d = .agg (ofBytes (if m < n then a else b)) ∧ h' = h.set r (.box [.bool (q || !(withinF v a n w b m || withinF w b m v a n))]) := by
  have hr : r < h.length := (List.getElem?_eq_some_iff.1 hb).1
  have hb2 : ∀ L : Heap, (h ++ L)[r]? = some (.box [.bool q]) := fun L => by
    rw [List.getElem?_append_left hr]; exact hb
  have hs : ∀ (L : Heap) (b : Blk), (h ++ L).set r b = h.set r b ++ L := fun L b => List.set_append_left _ _ hr
  have hl : ∀ (b : Blk), (h.set r b).length = h.length := fun b => List.length_set
  have ob : (ofBytes b).length = 16 := by rw [ofBytes_length, hbl]
  have oa : (ofBytes a).length = 16 := by rw [ofBytes_length, ha]
  have ta : (ofBytes a).take 16 = ofBytes a := List.take_of_length_le (by omega)
  have tb : (ofBytes b).take 16 = ofBytes b := List.take_of_length_le (by omega)
  refine FC.goes cf41 ?_; simp only [c41]; simp only [List.length_cons, List.length_nil, Nat.reduceAdd, Nat.reduceSub, List.replicate_succ, List.replicate_zero, List.cons_append, List.nil_append]
  simp (disch := first | omega | (simp only [List.length_append, List.length_cons, List.length_nil]; omega)) only [c41r0, c41r1, c41r2, c41r3, c41r4, pc_len, pc_one, ha, hbl, hb2, go_sem, fill_c, ↓reduceIte, reduceCtorEq, Nat.reduceAdd, Nat.reduceSub, Nat.reducePow, Nat.reduceMul, Nat.reduceEqDiff, Nat.reduceLT, Nat.reduceLeDiff, Int.reduceToNat, Int.reduceLT, Int.reduceLE, Int.reduceEq, Int.reduceNeg, Int.reduceAdd, Int.reduceSub, Int.reduceMul]
  cases q with
  | true =>
    simp (disch := first | omega | (simp only [List.length_append, List.length_cons, List.length_nil]; omega)) only [hb2, hs, go_sem, fill_c, ↓reduceIte, reduceCtorEq, Nat.reduceAdd, Nat.reduceSub, Nat.reducePow, Nat.reduceMul, Nat.reduceEqDiff, Nat.reduceLT, Nat.reduceLeDiff, Int.reduceToNat, Int.reduceLT, Int.reduceLE, Int.reduceEq, Int.reduceNeg, Int.reduceAdd, Int.reduceSub, Int.reduceMul]
    rw [Bool.true_or]
    have hl2 := hl (.box [.bool true])
    generalize e2 : h.set r (.box [.bool true]) = h2 at hl2 ⊢
    rw [← hl2]
    by_cases hc : m < n
    · rw [if_pos hc]
      simp (disch := first | omega | (simp only [List.length_append, List.length_cons, List.length_nil]; omega)) only [pc_n, ha, hbl, hc, pc_len, pc_a, pc_dl, oa, ob, ta, tb, go_sem, fill_c, ↓reduceIte, reduceCtorEq, Nat.reduceAdd, Nat.reduceSub, Nat.reducePow, Nat.reduceMul, Nat.reduceEqDiff, Nat.reduceLT, Nat.reduceLeDiff, Int.reduceToNat, Int.reduceLT, Int.reduceLE, Int.reduceEq, Int.reduceNeg, Int.reduceAdd, Int.reduceSub, Int.reduceMul]
      subst e2
      exact FinOk.set rfl (by simp [underL, underD, under_bytes]) ⟨rfl, rfl⟩
    · rw [if_neg hc]
      simp (disch := first | omega | (simp only [List.length_append, List.length_cons, List.length_nil]; omega)) only [pc_n, ha, hbl, hc, pc_len, pc_a, pc_dl, oa, ob, ta, tb, go_sem, fill_c, ↓reduceIte, reduceCtorEq, Nat.reduceAdd, Nat.reduceSub, Nat.reducePow, Nat.reduceMul, Nat.reduceEqDiff, Nat.reduceLT, Nat.reduceLeDiff, Int.reduceToNat, Int.reduceLT, Int.reduceLE, Int.reduceEq, Int.reduceNeg, Int.reduceAdd, Int.reduceSub, Int.reduceMul]
      subst e2
      exact FinOk.set rfl (by simp [underL, underD, under_bytes]) ⟨rfl, rfl⟩
  | false =>
    simp (disch := first | omega | (simp only [List.length_append, List.length_cons, List.length_nil]; omega)) only [hb2, hs, pc_len, pc_take, ha, hbl, go_sem, fill_c, ↓reduceIte, reduceCtorEq, Nat.reduceAdd, Nat.reduceSub, Nat.reducePow, Nat.reduceMul, Nat.reduceEqDiff, Nat.reduceLT, Nat.reduceLeDiff, Int.reduceToNat, Int.reduceLT, Int.reduceLE, Int.reduceEq, Int.reduceNeg, Int.reduceAdd, Int.reduceSub, Int.reduceMul]
    refine gfc_same (pmeet_fc _ v n w m a b ha hbl) ?_
    rw [Bool.false_or]
    generalize (withinF v a n w b m || withinF w b m v a n) = X
    simp (disch := first | omega | (simp only [List.length_append, List.length_cons, List.length_nil]; omega)) only [hb2, hs, go_sem, fill_c, ↓reduceIte, reduceCtorEq, Nat.reduceAdd, Nat.reduceSub, Nat.reducePow, Nat.reduceMul, Nat.reduceEqDiff, Nat.reduceLT, Nat.reduceLeDiff, Int.reduceToNat, Int.reduceLT, Int.reduceLE, Int.reduceEq, Int.reduceNeg, Int.reduceAdd, Int.reduceSub, Int.reduceMul]
    have hl2 := hl (.box [.bool !X])
    generalize e2 : h.set r (.box [.bool !X]) = h2 at hl2 ⊢
    rw [← hl2]
    by_cases hc : m < n
    · rw [if_pos hc]
      simp (disch := first | omega | (simp only [List.length_append, List.length_cons, List.length_nil]; omega)) only [pc_n, ha, hbl, hc, pc_len, pc_a, pc_dl, oa, ob, ta, tb, go_sem, fill_c, ↓reduceIte, reduceCtorEq, Nat.reduceAdd, Nat.reduceSub, Nat.reducePow, Nat.reduceMul, Nat.reduceEqDiff, Nat.reduceLT, Nat.reduceLeDiff, Int.reduceToNat, Int.reduceLT, Int.reduceLE, Int.reduceEq, Int.reduceNeg, Int.reduceAdd, Int.reduceSub, Int.reduceMul]
      subst e2
      exact FinOk.set rfl (by simp [underL, underD, under_bytes]) ⟨rfl, rfl⟩
    · rw [if_neg hc]
      simp (disch := first | omega | (simp only [List.length_append, List.length_cons, List.length_nil]; omega)) only [pc_n, ha, hbl, hc, pc_len, pc_a, pc_dl, oa, ob, ta, tb, go_sem, fill_c, ↓reduceIte, reduceCtorEq, Nat.reduceAdd, Nat.reduceSub, Nat.reducePow, Nat.reduceMul, Nat.reduceEqDiff, Nat.reduceLT, Nat.reduceLeDiff, Int.reduceToNat, Int.reduceLT, Int.reduceLE, Int.reduceEq, Int.reduceNeg, Int.reduceAdd, Int.reduceSub, Int.reduceMul]
      subst e2
      exact FinOk.set rfl (by simp [underL, underD, under_bytes]) ⟨rfl, rfl⟩
theorem mport2_fc (h : Heap) (r : Nat) (q : Bool) (hb : h[r]? = some (.box [.bool q])) (a b c d : Int) :
    FC Try.prog 42 [.ref r 0, .agg [.int .i64 a, .int .i64 b], .agg [.int .i64 c, .int .i64 d]] h fun x h' => x = .int .i64 (meetLo a b c d) ∧ h' = h.set r (.box [.bool (q || !meetB a b c d)]) := by
  have hr : r < h.length := (List.getElem?_eq_some_iff.1 hb).1
  have hb2 : ∀ L : Heap, (h ++ L)[r]? = some (.box [.bool q]) := fun L => by
    rw [List.getElem?_append_left hr]; exact hb
  have hs : ∀ (L : Heap) (b : Blk), (h ++ L).set r b = h.set r b ++ L := fun L b => List.set_append_left _ _ hr
  have hl : ∀ (b : Blk), (h.set r b).length = h.length := fun b => List.length_set
  refine FC.goes cf42 ?_; simp only [c42]; simp only [List.length_cons, List.length_nil, Nat.reduceAdd, Nat.reduceSub, List.replicate_succ, List.replicate_zero, List.cons_append, List.nil_append]
  simp (disch := first | omega | (simp only [List.length_append, List.length_cons, List.length_nil]; omega)) only [c42r0, c42r1, c42r2, c42r3, go_sem, fill_c, ↓reduceIte, reduceCtorEq, Nat.reduceAdd, Nat.reduceSub, Nat.reducePow, Nat.reduceMul, Nat.reduceEqDiff, Nat.reduceLT, Nat.reduceLeDiff, Int.reduceToNat, Int.reduceLT, Int.reduceLE, Int.reduceEq, Int.reduceNeg, Int.reduceAdd, Int.reduceSub, Int.reduceMul]
  refine gfc_same (smeet_fc _ a b c d) ?_
  cases q with
  | true =>
    simp (disch := first | omega | (simp only [List.length_append, List.length_cons, List.length_nil]; omega)) only [hb2, hs, splice0, go_sem, fill_c, ↓reduceIte, reduceCtorEq, Nat.reduceAdd, Nat.reduceSub, Nat.reducePow, Nat.reduceMul, Nat.reduceEqDiff, Nat.reduceLT, Nat.reduceLeDiff, Int.reduceToNat, Int.reduceLT, Int.reduceLE, Int.reduceEq, Int.reduceNeg, Int.reduceAdd, Int.reduceSub, Int.reduceMul]
    rw [Bool.true_or]
    have hl2 := hl (.box [.bool true])
    generalize e2 : h.set r (.box [.bool true]) = h2 at hl2 ⊢
    rw [← hl2]
    simp (disch := first | omega | (simp only [List.length_append, List.length_cons, List.length_nil]; omega)) only [go_sem, fill_c, ↓reduceIte, reduceCtorEq, Nat.reduceAdd, Nat.reduceSub, Nat.reducePow, Nat.reduceMul, Nat.reduceEqDiff, Nat.reduceLT, Nat.reduceLeDiff, Int.reduceToNat, Int.reduceLT, Int.reduceLE, Int.reduceEq, Int.reduceNeg, Int.reduceAdd, Int.reduceSub, Int.reduceMul]
    subst e2
    exact FinOk.set rfl (by simp [underL, underD]) ⟨rfl, rfl⟩
  | false =>
    simp (disch := first | omega | (simp only [List.length_append, List.length_cons, List.length_nil]; omega)) only [hb2, hs, splice0, go_sem, fill_c, ↓reduceIte, reduceCtorEq, Nat.reduceAdd, Nat.reduceSub, Nat.reducePow, Nat.reduceMul, Nat.reduceEqDiff, Nat.reduceLT, Nat.reduceLeDiff, Int.reduceToNat, Int.reduceLT, Int.reduceLE, Int.reduceEq, Int.reduceNeg, Int.reduceAdd, Int.reduceSub, Int.reduceMul]
    rw [Bool.false_or]
    have hl2 := hl (.box [.bool !meetB a b c d])
    generalize e2 : h.set r (.box [.bool !meetB a b c d]) = h2 at hl2 ⊢
    rw [← hl2]
    simp (disch := first | omega | (simp only [List.length_append, List.length_cons, List.length_nil]; omega)) only [go_sem, fill_c, ↓reduceIte, reduceCtorEq, Nat.reduceAdd, Nat.reduceSub, Nat.reducePow, Nat.reduceMul, Nat.reduceEqDiff, Nat.reduceLT, Nat.reduceLeDiff, Int.reduceToNat, Int.reduceLT, Int.reduceLE, Int.reduceEq, Int.reduceNeg, Int.reduceAdd, Int.reduceSub, Int.reduceMul]
    subst e2
    exact FinOk.set rfl (by simp [underL, underD]) ⟨rfl, rfl⟩
/-- The number that two ask, or another one; and do they part? -/
def numF (a b o : Int) : Int := if a = -1 ∧ b = -1 then o else if a = -1 then b else a
def numP (a b : Int) : Bool := decide (¬ a = -1 ∧ ¬ b = -1 ∧ ¬ a = b)
theorem number_fc (h : Heap) (r : Nat) (q : Bool) (hb : h[r]? = some (.box [.bool q])) (a b o : Int) :
    FC Try.prog 43 [.ref r 0, .int .i64 a, .int .i64 b, .int .i64 o] h fun x h' => x = .int .i64 (numF a b o) ∧ h' = h.set r (.box [.bool (q || numP a b)]) := by
  have hr : r < h.length := (List.getElem?_eq_some_iff.1 hb).1
  refine FC.goes cf43 ?_; simp only [c43]; simp only [List.length_cons, List.length_nil, Nat.reduceAdd, Nat.reduceSub, List.replicate_succ, List.replicate_zero, List.cons_append, List.nil_append]
  by_cases h1 : a = -1
  · have e1 : decide (a = -1) = true := decide_eq_true h1
    have hp : numP a b = false := by simp [numP, h1]
    rw [hp, Bool.or_false, set_same hb]
    by_cases h2 : b = -1
    · have e2 : decide (b = -1) = true := decide_eq_true h2
      have e : numF a b o = o := by simp [numF, h1, h2]
      rw [e]
      simp (disch := first | omega | (simp only [List.length_append, List.length_cons, List.length_nil]; omega)) only [c43r0, c43r1, c43r2, c43r3, c43r4, c43r5, c43r6, c43r7, e1, e2, go_sem, fill_c, ↓reduceIte, reduceCtorEq, Nat.reduceAdd, Nat.reduceSub, Nat.reducePow, Nat.reduceMul, Nat.reduceEqDiff, Nat.reduceLT, Nat.reduceLeDiff, Int.reduceToNat, Int.reduceLT, Int.reduceLE, Int.reduceEq, Int.reduceNeg, Int.reduceAdd, Int.reduceSub, Int.reduceMul]
      exact FinOk.all ⟨rfl, rfl⟩
    · have e : numF a b o = b := by simp [numF, h1, h2]
      rw [e]
      simp (disch := first | omega | (simp only [List.length_append, List.length_cons, List.length_nil]; omega)) only [c43r0, c43r1, c43r2, c43r3, c43r4, c43r5, c43r6, c43r7, e1, h2, go_sem, fill_c, ↓reduceIte, reduceCtorEq, Nat.reduceAdd, Nat.reduceSub, Nat.reducePow, Nat.reduceMul, Nat.reduceEqDiff, Nat.reduceLT, Nat.reduceLeDiff, Int.reduceToNat, Int.reduceLT, Int.reduceLE, Int.reduceEq, Int.reduceNeg, Int.reduceAdd, Int.reduceSub, Int.reduceMul]
      exact FinOk.all ⟨rfl, rfl⟩
  · have e : numF a b o = a := by simp [numF, h1]
    rw [e]
    by_cases h2 : b = -1
    · have e2 : decide (b = -1) = true := decide_eq_true h2
      have hp : numP a b = false := by simp [numP, h2]
      rw [hp, Bool.or_false, set_same hb]
      simp (disch := first | omega | (simp only [List.length_append, List.length_cons, List.length_nil]; omega)) only [c43r0, c43r1, c43r2, c43r3, c43r4, c43r5, c43r6, c43r7, h1, e2, Bool.false_and, go_sem, fill_c, ↓reduceIte, reduceCtorEq, Nat.reduceAdd, Nat.reduceSub, Nat.reducePow, Nat.reduceMul, Nat.reduceEqDiff, Nat.reduceLT, Nat.reduceLeDiff, Int.reduceToNat, Int.reduceLT, Int.reduceLE, Int.reduceEq, Int.reduceNeg, Int.reduceAdd, Int.reduceSub, Int.reduceMul]
      exact FinOk.all ⟨rfl, rfl⟩
    · by_cases h3 : a = b
      · have e3 : decide (a = b) = true := decide_eq_true h3
        have hp : numP a b = false := by simp [numP, h3]
        rw [hp, Bool.or_false, set_same hb]
        simp (disch := first | omega | (simp only [List.length_append, List.length_cons, List.length_nil]; omega)) only [c43r0, c43r1, c43r2, c43r3, c43r4, c43r5, c43r6, c43r7, h1, h2, e3, Bool.false_and, go_sem, fill_c, ↓reduceIte, reduceCtorEq, Nat.reduceAdd, Nat.reduceSub, Nat.reducePow, Nat.reduceMul, Nat.reduceEqDiff, Nat.reduceLT, Nat.reduceLeDiff, Int.reduceToNat, Int.reduceLT, Int.reduceLE, Int.reduceEq, Int.reduceNeg, Int.reduceAdd, Int.reduceSub, Int.reduceMul]
        exact FinOk.all ⟨rfl, rfl⟩
      · have hp : numP a b = true := by simp [numP, h1, h2, h3]
        rw [hp, Bool.or_true]
        simp (disch := first | omega | (simp only [List.length_append, List.length_cons, List.length_nil]; omega)) only [c43r0, c43r1, c43r2, c43r3, c43r4, c43r5, c43r6, c43r7, h1, h2, h3, Bool.false_and, hb, go_sem, fill_c, ↓reduceIte, reduceCtorEq, Nat.reduceAdd, Nat.reduceSub, Nat.reducePow, Nat.reduceMul, Nat.reduceEqDiff, Nat.reduceLT, Nat.reduceLeDiff, Int.reduceToNat, Int.reduceLT, Int.reduceLE, Int.reduceEq, Int.reduceNeg, Int.reduceAdd, Int.reduceSub, Int.reduceMul]
        exact FinOk.all ⟨rfl, rfl⟩
end Go.Proofs

/-
  Own work. The walks of shadow.Witness and Meets.
-/
namespace Go.Proofs
open Go Go.Ytodlpcoffmnmbaa
set_option linter.unusedVariables false
set_option linter.unusedSimpArgs false
set_option maxRecDepth 10000

/-! ### weighbridge/shadow.Witness, params 2 -/
def c11r0 : List AStm := [.op (some 2) none (.box (.t 0)),
    .op (some 3) none (.box (.t 1)),
    .op (some 4) none (.alloc [(.int .i64 0), (.int .u8 0), (.int .u8 0), (.int .u8 0), (.int .u8 0), (.int .u8 0), (.int .u8 0), (.int .u8 0), (.int .u8 0), (.int .u8 0), (.int .u8 0), (.int .u8 0), (.int .u8 0), (.int .u8 0), (.int .u8 0), (.int .u8 0), (.int .u8 0), (.int .u8 0), (.int .u8 0), (.int .u8 0), (.int .u8 0), (.int .u8 0), (.int .u8 0), (.int .u8 0), (.int .u8 0), (.int .u8 0), (.int .u8 0), (.int .u8 0), (.int .u8 0), (.int .u8 0), (.int .u8 0), (.int .u8 0), (.int .u8 0), (.int .i64 0), (.int .i64 0), (.bool false), (.int .i64 0), (.int .i64 0)]),
    .op (some 5) none (.mv (.c (.bool false)))]
def c11r1 : List AStm := [.op (some 8) none (.load (some 43) (.t 2)),
    .op (some 9) none (.load (some 43) (.t 3)),
    .op (some 10) none (.bslice 43 [(.int .i64 0), (.int .u8 0), (.int .u8 0), (.int .u8 0), (.int .u8 0), (.int .u8 0), (.int .u8 0), (.int .u8 0), (.int .u8 0), (.int .u8 0), (.int .u8 0), (.int .u8 0), (.int .u8 0), (.int .u8 0), (.int .u8 0), (.int .u8 0), (.int .u8 0), (.int .i64 0), (.int .i64 0), (.int .u8 0), (.int .u8 0), (.int .u8 0), (.int .u8 0), (.int .u8 0), (.int .u8 0), (.int .u8 0), (.int .u8 0), (.int .u8 0), (.int .u8 0), (.int .u8 0), (.int .u8 0), (.int .u8 0), (.int .u8 0), (.int .u8 0), (.int .u8 0), (.int .i64 0), (.int .i64 0), (.int .i64 0), (.int .i64 0), (.int .i64 0), (.int .i64 0), (.int .i64 0), (.int .i64 0), (.int .i64 0), (.int .u8 0), (.int .u8 0), (.int .u8 0), (.int .u8 0), (.int .u8 0), (.int .u8 0), (.int .u8 0), (.int .u8 0), (.int .u8 0), (.int .u8 0), (.int .u8 0), (.int .u8 0), (.int .u8 0), (.int .u8 0), (.int .u8 0), (.int .u8 0), (.int .i64 0), (.int .i64 0), (.int .u8 0), (.int .u8 0), (.int .u8 0), (.int .u8 0), (.int .u8 0), (.int .u8 0), (.int .u8 0), (.int .u8 0), (.int .u8 0), (.int .u8 0), (.int .u8 0), (.int .u8 0), (.int .u8 0), (.int .u8 0), (.int .u8 0), (.int .u8 0), (.int .i64 0), (.int .i64 0), (.int .i64 0), (.int .i64 0), (.int .i64 0), (.int .i64 0), (.int .i64 0), (.int .i64 0)] 2 [(0, 43, (.t 8)), (43, 43, (.t 9))]),
    .call (some 11) none (.c (.fn (.func 38) [] [])) [(.t 10)],
    .op (some 12) none (.un .not (.t 11))]
def c11r2 : List AStm := [.op (some 13) none (.build [(.int .i64 0), (.int .u8 0), (.int .u8 0), (.int .u8 0), (.int .u8 0), (.int .u8 0), (.int .u8 0), (.int .u8 0), (.int .u8 0), (.int .u8 0), (.int .u8 0), (.int .u8 0), (.int .u8 0), (.int .u8 0), (.int .u8 0), (.int .u8 0), (.int .u8 0), (.int .u8 0), (.int .u8 0), (.int .u8 0), (.int .u8 0), (.int .u8 0), (.int .u8 0), (.int .u8 0), (.int .u8 0), (.int .u8 0), (.int .u8 0), (.int .u8 0), (.int .u8 0), (.int .u8 0), (.int .u8 0), (.int .u8 0), (.int .u8 0), (.int .i64 0), (.int .i64 0), (.bool false), (.int .i64 0), (.int .i64 0)] []),
    .op none none (.store 38 (.t 4) (.t 13)),
    .op (some 5) none (.mv (.c (.bool false)))]
def c11r3 : List AStm := [.op (some 6) none (.alloc [(.bool false)])]
def c11r4 : List AStm := [.op (some 14) none (.faddr 0 (.t 2)),
    .op (some 15) none (.faddr 0 (.t 14)),
    .op (some 16) none (.load none (.t 15)),
    .op (some 17) none (.faddr 0 (.t 2)),
    .op (some 18) none (.load (some 18) (.t 17)),
    .op (some 19) none (.faddr 0 (.t 3)),
    .op (some 20) none (.load (some 18) (.t 19)),
    .op (some 22) none (.faddr 18 (.t 2)),
    .op (some 23) none (.load (some 18) (.t 22)),
    .op (some 24) none (.faddr 18 (.t 3)),
    .op (some 25) none (.load (some 18) (.t 24)),
    .op (some 27) none (.faddr 36 (.t 2)),
    .op (some 28) none (.load (some 2) (.t 27)),
    .op (some 29) none (.faddr 36 (.t 3)),
    .op (some 30) none (.load (some 2) (.t 29)),
    .op (some 32) none (.faddr 38 (.t 2)),
    .op (some 33) none (.load (some 2) (.t 32)),
    .op (some 34) none (.faddr 38 (.t 3)),
    .op (some 35) none (.load (some 2) (.t 34)),
    .op (some 37) none (.faddr 40 (.t 2)),
    .op (some 38) none (.load none (.t 37)),
    .op (some 39) none (.faddr 40 (.t 3)),
    .op (some 40) none (.load none (.t 39)),
    .op (some 42) none (.faddr 41 (.t 2)),
    .op (some 43) none (.load none (.t 42)),
    .op (some 44) none (.faddr 41 (.t 3)),
    .op (some 45) none (.load none (.t 44)),
    .callW (some 21) (.c (.fn (.func 41) [] [])) [(.t 6), (.t 18), (.t 20)],
    .chk 14 none (.faddr 0 (.t 2)),
    .chk 15 none (.faddr 0 (.t 14)),
    .chk 16 none (.load none (.t 15)),
    .chk 22 none (.faddr 18 (.t 2)),
    .chk 23 none (.load (some 18) (.t 22)),
    .chk 24 none (.faddr 18 (.t 3)),
    .chk 25 none (.load (some 18) (.t 24)),
    .chk 27 none (.faddr 36 (.t 2)),
    .chk 28 none (.load (some 2) (.t 27)),
    .chk 29 none (.faddr 36 (.t 3)),
    .chk 30 none (.load (some 2) (.t 29)),
    .chk 32 none (.faddr 38 (.t 2)),
    .chk 33 none (.load (some 2) (.t 32)),
    .chk 34 none (.faddr 38 (.t 3)),
    .chk 35 none (.load (some 2) (.t 34)),
    .chk 37 none (.faddr 40 (.t 2)),
    .chk 38 none (.load none (.t 37)),
    .chk 39 none (.faddr 40 (.t 3)),
    .chk 40 none (.load none (.t 39)),
    .chk 42 none (.faddr 41 (.t 2)),
    .chk 43 none (.load none (.t 42)),
    .chk 44 none (.faddr 41 (.t 3)),
    .chk 45 none (.load none (.t 44)),
    .callW (some 26) (.c (.fn (.func 41) [] [])) [(.t 6), (.t 23), (.t 25)],
    .chk 14 none (.faddr 0 (.t 2)),
    .chk 15 none (.faddr 0 (.t 14)),
    .chk 16 none (.load none (.t 15)),
    .chk 27 none (.faddr 36 (.t 2)),
    .chk 28 none (.load (some 2) (.t 27)),
    .chk 29 none (.faddr 36 (.t 3)),
    .chk 30 none (.load (some 2) (.t 29)),
    .chk 32 none (.faddr 38 (.t 2)),
    .chk 33 none (.load (some 2) (.t 32)),
    .chk 34 none (.faddr 38 (.t 3)),
    .chk 35 none (.load (some 2) (.t 34)),
    .chk 37 none (.faddr 40 (.t 2)),
    .chk 38 none (.load none (.t 37)),
    .chk 39 none (.faddr 40 (.t 3)),
    .chk 40 none (.load none (.t 39)),
    .chk 42 none (.faddr 41 (.t 2)),
    .chk 43 none (.load none (.t 42)),
    .chk 44 none (.faddr 41 (.t 3)),
    .chk 45 none (.load none (.t 44)),
    .callW (some 31) (.c (.fn (.func 42) [] [])) [(.t 6), (.t 28), (.t 30)],
    .chk 14 none (.faddr 0 (.t 2)),
    .chk 15 none (.faddr 0 (.t 14)),
    .chk 16 none (.load none (.t 15)),
    .chk 32 none (.faddr 38 (.t 2)),
    .chk 33 none (.load (some 2) (.t 32)),
    .chk 34 none (.faddr 38 (.t 3)),
    .chk 35 none (.load (some 2) (.t 34)),
    .chk 37 none (.faddr 40 (.t 2)),
    .chk 38 none (.load none (.t 37)),
    .chk 39 none (.faddr 40 (.t 3)),
    .chk 40 none (.load none (.t 39)),
    .chk 42 none (.faddr 41 (.t 2)),
    .chk 43 none (.load none (.t 42)),
    .chk 44 none (.faddr 41 (.t 3)),
    .chk 45 none (.load none (.t 44)),
    .callW (some 36) (.c (.fn (.func 42) [] [])) [(.t 6), (.t 33), (.t 35)],
    .chk 14 none (.faddr 0 (.t 2)),
    .chk 15 none (.faddr 0 (.t 14)),
    .chk 16 none (.load none (.t 15)),
    .chk 37 none (.faddr 40 (.t 2)),
    .chk 38 none (.load none (.t 37)),
    .chk 39 none (.faddr 40 (.t 3)),
    .chk 40 none (.load none (.t 39)),
    .chk 42 none (.faddr 41 (.t 2)),
    .chk 43 none (.load none (.t 42)),
    .chk 44 none (.faddr 41 (.t 3)),
    .chk 45 none (.load none (.t 44)),
    .callW (some 41) (.c (.fn (.func 43) [] [])) [(.t 6), (.t 38), (.t 40), (.c (.int .i64 6))],
    .chk 14 none (.faddr 0 (.t 2)),
    .chk 15 none (.faddr 0 (.t 14)),
    .chk 16 none (.load none (.t 15)),
    .chk 42 none (.faddr 41 (.t 2)),
    .chk 43 none (.load none (.t 42)),
    .chk 44 none (.faddr 41 (.t 3)),
    .chk 45 none (.load none (.t 44)),
    .callW (some 46) (.c (.fn (.func 43) [] [])) [(.t 6), (.t 43), (.t 45), (.c (.int .i64 0))],
    .chk 14 none (.faddr 0 (.t 2)),
    .chk 15 none (.faddr 0 (.t 14)),
    .chk 16 none (.load none (.t 15)),
    .op (some 47) none (.build [(.int .i64 0), (.int .u8 0), (.int .u8 0), (.int .u8 0), (.int .u8 0), (.int .u8 0), (.int .u8 0), (.int .u8 0), (.int .u8 0), (.int .u8 0), (.int .u8 0), (.int .u8 0), (.int .u8 0), (.int .u8 0), (.int .u8 0), (.int .u8 0), (.int .u8 0), (.int .u8 0), (.int .u8 0), (.int .u8 0), (.int .u8 0), (.int .u8 0), (.int .u8 0), (.int .u8 0), (.int .u8 0), (.int .u8 0), (.int .u8 0), (.int .u8 0), (.int .u8 0), (.int .u8 0), (.int .u8 0), (.int .u8 0), (.int .u8 0), (.int .i64 0), (.int .i64 0), (.bool false), (.int .i64 0), (.int .i64 0)] [(0, 1, (.t 16)), (1, 16, (.t 21)), (17, 16, (.t 26)), (35, 1, (.c (.bool true))), (36, 1, (.t 31)), (37, 1, (.t 36)), (33, 1, (.t 41)), (34, 1, (.t 46))]),
    .op (some 7) none (.alloc [(.int .i64 0), (.int .u8 0), (.int .u8 0), (.int .u8 0), (.int .u8 0), (.int .u8 0), (.int .u8 0), (.int .u8 0), (.int .u8 0), (.int .u8 0), (.int .u8 0), (.int .u8 0), (.int .u8 0), (.int .u8 0), (.int .u8 0), (.int .u8 0), (.int .u8 0), (.int .u8 0), (.int .u8 0), (.int .u8 0), (.int .u8 0), (.int .u8 0), (.int .u8 0), (.int .u8 0), (.int .u8 0), (.int .u8 0), (.int .u8 0), (.int .u8 0), (.int .u8 0), (.int .u8 0), (.int .u8 0), (.int .u8 0), (.int .u8 0), (.int .i64 0), (.int .i64 0), (.bool false), (.int .i64 0), (.int .i64 0)])]
def c11r5 : List AStm := [.op none none (.store 38 (.t 7) (.t 47))]
def c11r6 : List AStm := [.op (some 48) none (.faddr 0 (.t 6)),
    .op (some 49) none (.load none (.t 48))]
def c11r7 : List AStm := [.op (some 50) none (.build [(.int .i64 0), (.int .u8 0), (.int .u8 0), (.int .u8 0), (.int .u8 0), (.int .u8 0), (.int .u8 0), (.int .u8 0), (.int .u8 0), (.int .u8 0), (.int .u8 0), (.int .u8 0), (.int .u8 0), (.int .u8 0), (.int .u8 0), (.int .u8 0), (.int .u8 0), (.int .u8 0), (.int .u8 0), (.int .u8 0), (.int .u8 0), (.int .u8 0), (.int .u8 0), (.int .u8 0), (.int .u8 0), (.int .u8 0), (.int .u8 0), (.int .u8 0), (.int .u8 0), (.int .u8 0), (.int .u8 0), (.int .u8 0), (.int .u8 0), (.int .i64 0), (.int .i64 0), (.bool false), (.int .i64 0), (.int .i64 0)] []),
    .op none none (.store 38 (.t 4) (.t 50)),
    .op (some 5) none (.mv (.c (.bool false)))]
def c11r8 : List AStm := [.op (some 51) none (.load (some 38) (.t 7)),
    .op none none (.store 38 (.t 4) (.t 51)),
    .op (some 5) none (.mv (.c (.bool true)))]
def c11 : CF := ⟨.seq (.reg c11r0) (.seq (.seq (.reg c11r1) (.cond (.t 12) (.seq (.reg c11r2) (.ret)) (.skip))) (.seq (.reg c11r3) (.seq (.dreg c11r4 c11r5) (.seq (.seq (.reg c11r6) (.cond (.t 49) (.seq (.reg c11r7) (.ret)) (.skip))) (.seq (.reg c11r8) (.ret)))))), [.cell 4 (some 38), .tmp 5], 52⟩
theorem cf11 : cfun Try.prog 11 = some c11 := by kernel_rfl

/-! ### weighbridge/shadow.Meets, params 2 -/
def c10r0 : List AStm := [.op (some 2) none (.box (.t 0)),
    .op (some 3) none (.box (.t 1)),
    .op (some 4) none (.mv (.c (.bool false)))]
def c10r1 : List AStm := [.op (some 8) none (.load (some 43) (.t 2)),
    .op (some 9) none (.load (some 43) (.t 3)),
    .call (some 10) none (.c (.fn (.func 11) [] [])) [(.t 8), (.t 9)],
    .op (some 7) none (.mv (.t 10)),
    .op (some 11) none (.ext (.t 7) 0),
    .op (some 12) none (.ext (.t 7) 1),
    .op (some 5) none (.alloc [(.int .i64 0), (.int .u8 0), (.int .u8 0), (.int .u8 0), (.int .u8 0), (.int .u8 0), (.int .u8 0), (.int .u8 0), (.int .u8 0), (.int .u8 0), (.int .u8 0), (.int .u8 0), (.int .u8 0), (.int .u8 0), (.int .u8 0), (.int .u8 0), (.int .u8 0), (.int .u8 0), (.int .u8 0), (.int .u8 0), (.int .u8 0), (.int .u8 0), (.int .u8 0), (.int .u8 0), (.int .u8 0), (.int .u8 0), (.int .u8 0), (.int .u8 0), (.int .u8 0), (.int .u8 0), (.int .u8 0), (.int .u8 0), (.int .u8 0), (.int .i64 0), (.int .i64 0), (.bool false), (.int .i64 0), (.int .i64 0)]),
    .op none none (.store 38 (.t 5) (.t 11)),
    .op (some 6) none (.mv (.t 12))]
def c10r2 : List AStm := [.op (some 13) none (.mv (.t 6)),
    .op (some 4) none (.mv (.t 13))]
def c10 : CF := ⟨.seq (.reg c10r0) (.seq (.reg c10r1) (.seq (.reg c10r2) (.ret))), [.tmp 4], 14⟩
theorem cf10 : cfun Try.prog 10 = some c10 := by kernel_rfl



theorem kfcW_set {P : Program} {i : FuncId} {xs : List D} {h : Heap} {rest : List AStm} {t : List D} {dst : Option Nat} {S : List Fr} {Q : Exit → St → Prop} {d : D} {r : Nat} {b : Blk} (hr : r < h.length)
    (hc : ∀ L, FC P i xs (h ++ L) fun d' h' => d' = d ∧ h' = (h ++ L).set r b) (hk : gq P rest S Q ⟨setD t dst d, h.set r b⟩) : kfcW P i xs h rest t dst S Q :=
  kfcW_of (fun L => (hc L).mono (by rintro d' h' ⟨rfl, rfl⟩; exact ⟨rfl, List.set_append_left _ _ hr⟩)) List.length_set hk
/-- Does any key have both? -/
def witS (a b : Ru) : Bool := !(withinF a.sv a.sa a.sn b.sv b.sa b.sn || withinF b.sv b.sa b.sn a.sv a.sa a.sn)
def witD (a b : Ru) : Bool := !(withinF a.dv a.da a.dn b.dv b.da b.dn || withinF b.dv b.da b.dn a.dv a.da a.dn)
def witP (a b : Ru) : Bool := ((((witS a b || witD a b) || !meetB a.slo a.shi b.slo b.shi) || !meetB a.dlo a.dhi b.dlo b.dhi) || numP a.proto b.proto) || numP a.dscp b.dscp
def witB (a b : Ru) : Bool := bothOk a b && !witP a b
def kyNo : Ky := ⟨0, zeros 16, zeros 16, 0, 0, false, 0, 0⟩
theorem kyNo_ok : kyNo.Ok := ⟨zeros_len 16, zeros_len 16⟩
def witK' (a b : Ru) : Ky := ⟨a.sv, if b.sn < a.sn then a.sa else b.sa, if b.dn < a.dn then a.da else b.da, numF a.proto b.proto 6, numF a.dscp b.dscp 0, true, meetLo a.slo a.shi b.slo b.shi, meetLo a.dlo a.dhi b.dlo b.dhi⟩
def witK (a b : Ru) : Ky := if witB a b then witK' a b else kyNo
theorem witK'_ok {a b : Ru} (oa : a.Ok) (ob : b.Ok) : (witK' a b).Ok := ⟨by unfold witK'; simp only; split; exact oa.s; exact ob.s, by unfold witK'; simp only; split; exact oa.d; exact ob.d⟩
theorem witK_ok {a b : Ru} (oa : a.Ok) (ob : b.Ok) : (witK a b).Ok := by unfold witK; split; exact witK'_ok oa ob; exact kyNo_ok
/-- A key's cells, laid one by one. -/
theorem ky_fill {k : Ky} (kok : k.Ok) : fillD (ky kyNo) [(0, 1, .int .i64 k.v), (1, 16, .agg (ofBytes k.s)), (17, 16, .agg (ofBytes k.d)), (35, 1, .bool k.ports), (36, 1, .int .i64 k.sp), (37, 1, .int .i64 k.dp), (33, 1, .int .i64 k.proto), (34, 1, .int .i64 k.dscp)] = some (ky k) := by
  obtain ⟨v, s, d, p, c, po, sp, dp⟩ := k
  obtain ⟨hs, hd⟩ := kok
  simp only at hs hd
  obtain ⟨s0, s1, s2, s3, s4, s5, s6, s7, s8, s9, s10, s11, s12, s13, s14, s15, rfl⟩ : ∃ s0 s1 s2 s3 s4 s5 s6 s7 s8 s9 s10 s11 s12 s13 s14 s15, s = [s0, s1, s2, s3, s4, s5, s6, s7, s8, s9, s10, s11, s12, s13, s14, s15] := by
    match s, hs with
    | [s0, s1, s2, s3, s4, s5, s6, s7, s8, s9, s10, s11, s12, s13, s14, s15], _ => exact ⟨_, _, _, _, _, _, _, _, _, _, _, _, _, _, _, _, rfl⟩
  obtain ⟨d0, d1, d2, d3, d4, d5, d6, d7, d8, d9, d10, d11, d12, d13, d14, d15, rfl⟩ : ∃ s0 s1 s2 s3 s4 s5 s6 s7 s8 s9 s10 s11 s12 s13 s14 s15, d = [s0, s1, s2, s3, s4, s5, s6, s7, s8, s9, s10, s11, s12, s13, s14, s15] := by
    match d, hd with
    | [s0, s1, s2, s3, s4, s5, s6, s7, s8, s9, s10, s11, s12, s13, s14, s15], _ => exact ⟨_, _, _, _, _, _, _, _, _, _, _, _, _, _, _, _, rfl⟩
  rfl
theorem witness_fc (h : Heap) (a b : Ru) (oa : a.Ok) (ob : b.Ok) : FC Try.prog 11 [.agg (ru a), .agg (ru b)] h fun d h' => d = .tup [.agg (ky (witK a b)), .bool (witB a b)] ∧ h' = h := by
  have la := ru_len oa
  have lb := ru_len ob
  have zz : ky kyNo = [.int .i64 0, .int .u8 0, .int .u8 0, .int .u8 0, .int .u8 0, .int .u8 0, .int .u8 0, .int .u8 0, .int .u8 0, .int .u8 0, .int .u8 0, .int .u8 0, .int .u8 0, .int .u8 0, .int .u8 0, .int .u8 0, .int .u8 0, .int .u8 0, .int .u8 0, .int .u8 0, .int .u8 0, .int .u8 0, .int .u8 0, .int .u8 0, .int .u8 0, .int .u8 0, .int .u8 0, .int .u8 0, .int .u8 0, .int .u8 0, .int .u8 0, .int .u8 0, .int .u8 0, .int .i64 0, .int .i64 0, .bool false, .int .i64 0, .int .i64 0] := rfl
  have nl := ky_len kyNo_ok
  have n1 := ky_one kyNo_ok
  have nt := ky_take kyNo_ok
  have kf := ky_fill (witK'_ok oa ob)
  have kl := ky_len (witK'_ok oa ob)
  have k1 := ky_one (witK'_ok oa ob)
  have kt := ky_take (witK'_ok oa ob)
  refine FC.goes cf11 ?_; simp only [c11]; simp only [List.length_cons, List.length_nil, Nat.reduceAdd, Nat.reduceSub, List.replicate_succ, List.replicate_zero, List.cons_append, List.nil_append]
  simp only [c11r0, c11r2, c11r4, c11r7, ← zz]
  clear zz
  simp (disch := first | omega | (simp only [List.length_append, List.length_cons, List.length_nil]; omega)) only [c11r0, c11r1, c11r2, c11r3, c11r4, c11r5, c11r6, c11r7, c11r8, la, lb, ru_one, ru_take, oa, ob, go_sem, ↓reduceIte, reduceCtorEq, Nat.reduceAdd, Nat.reduceSub, Nat.reducePow, Nat.reduceMul, Nat.reduceEqDiff, Nat.reduceLT, Nat.reduceLeDiff, Int.reduceToNat, Int.reduceLT, Int.reduceLE, Int.reduceEq, Int.reduceNeg, Int.reduceAdd, Int.reduceSub, Int.reduceMul]
  rw [ru_fill2 oa ob rfl]
  simp (disch := first | omega | (simp only [List.length_append, List.length_cons, List.length_nil]; omega)) only [go_sem, fill_c, ↓reduceIte, reduceCtorEq, Nat.reduceAdd, Nat.reduceSub, Nat.reducePow, Nat.reduceMul, Nat.reduceEqDiff, Nat.reduceLT, Nat.reduceLeDiff, Int.reduceToNat, Int.reduceLT, Int.reduceLE, Int.reduceEq, Int.reduceNeg, Int.reduceAdd, Int.reduceSub, Int.reduceMul]
  refine gfc_same (right_ok_fc _ _ [a, b] (by simp [oa, ob]) (rus_two oa ob (by simp (disch := first | omega | (simp only [List.length_append, List.length_cons, List.length_nil]; omega)) only [go_sem, fill_c, ↓reduceIte, reduceCtorEq, Nat.reduceAdd, Nat.reduceSub, Nat.reducePow, Nat.reduceMul, Nat.reduceEqDiff, Nat.reduceLT, Nat.reduceLeDiff, Int.reduceToNat, Int.reduceLT, Int.reduceLE, Int.reduceEq, Int.reduceNeg, Int.reduceAdd, Int.reduceSub, Int.reduceMul])) (by simp)) ?_
  rw [allOk_two]
  cases h1 : bothOk a b with
  | false =>
    have e : witB a b = false := by rw [witB, h1]; rfl
    have e2 : witK a b = kyNo := by rw [witK, e]; rfl
    rw [e, e2]
    simp (disch := first | omega | (simp only [List.length_append, List.length_cons, List.length_nil]; omega)) only [fill0, nl, n1, nt, go_sem, ↓reduceIte, reduceCtorEq, Nat.reduceAdd, Nat.reduceSub, Nat.reducePow, Nat.reduceMul, Nat.reduceEqDiff, Nat.reduceLT, Nat.reduceLeDiff, Int.reduceToNat, Int.reduceLT, Int.reduceLE, Int.reduceEq, Int.reduceNeg, Int.reduceAdd, Int.reduceSub, Int.reduceMul]
    exact FinOk.drop (.inl rfl) (by simp [underL, underD, ky_under kyNo_ok]) ⟨rfl, rfl⟩
  | true =>
    simp (disch := first | omega | (simp only [List.length_append, List.length_cons, List.length_nil]; omega)) only [la, lb, ru_s, ru_d, ru_l18, ru_d36, ru_d38, ru_d40, ru_d41, ruT, ru_0, oa, ob, go_sem, ↓reduceIte, reduceCtorEq, Nat.reduceAdd, Nat.reduceSub, Nat.reducePow, Nat.reduceMul, Nat.reduceEqDiff, Nat.reduceLT, Nat.reduceLeDiff, Int.reduceToNat, Int.reduceLT, Int.reduceLE, Int.reduceEq, Int.reduceNeg, Int.reduceAdd, Int.reduceSub, Int.reduceMul]
    refine kfcW_set (by simp only [List.length_append, List.length_cons, List.length_nil]; omega) (fun L => address_fc _ _ false (by simp (disch := first | omega | (simp only [List.length_append, List.length_cons, List.length_nil]; omega)) only [go_sem, fill_c, ↓reduceIte, reduceCtorEq, Nat.reduceAdd, Nat.reduceSub, Nat.reducePow, Nat.reduceMul, Nat.reduceEqDiff, Nat.reduceLT, Nat.reduceLeDiff, Int.reduceToNat, Int.reduceLT, Int.reduceLE, Int.reduceEq, Int.reduceNeg, Int.reduceAdd, Int.reduceSub, Int.reduceMul]) a.sv a.sn b.sv b.sn a.sa b.sa oa.s ob.s) ?_
    rw [Bool.false_or]
    change gq _ _ _ _ ⟨_, List.set _ _ (.box [.bool (witS a b)])⟩
    simp (disch := first | omega | (simp only [List.length_append, List.length_cons, List.length_nil]; omega)) only [la, lb, ru_s, ru_d, ru_l18, ru_d36, ru_d38, ru_d40, ru_d41, ruT, ru_0, oa, ob, go_sem, ↓reduceIte, reduceCtorEq, Nat.reduceAdd, Nat.reduceSub, Nat.reducePow, Nat.reduceMul, Nat.reduceEqDiff, Nat.reduceLT, Nat.reduceLeDiff, Int.reduceToNat, Int.reduceLT, Int.reduceLE, Int.reduceEq, Int.reduceNeg, Int.reduceAdd, Int.reduceSub, Int.reduceMul]
    refine kfcW_set (by simp only [List.length_append, List.length_cons, List.length_nil]; omega) (fun L => address_fc _ _ (witS a b) (by simp (disch := first | omega | (simp only [List.length_append, List.length_cons, List.length_nil]; omega)) only [go_sem, fill_c, ↓reduceIte, reduceCtorEq, Nat.reduceAdd, Nat.reduceSub, Nat.reducePow, Nat.reduceMul, Nat.reduceEqDiff, Nat.reduceLT, Nat.reduceLeDiff, Int.reduceToNat, Int.reduceLT, Int.reduceLE, Int.reduceEq, Int.reduceNeg, Int.reduceAdd, Int.reduceSub, Int.reduceMul]) a.dv a.dn b.dv b.dn a.da b.da oa.d ob.d) ?_
    change gq _ _ _ _ ⟨_, List.set _ _ (.box [.bool (witS a b || witD a b)])⟩
    simp (disch := first | omega | (simp only [List.length_append, List.length_cons, List.length_nil]; omega)) only [la, lb, ru_s, ru_d, ru_l18, ru_d36, ru_d38, ru_d40, ru_d41, ruT, ru_0, oa, ob, go_sem, ↓reduceIte, reduceCtorEq, Nat.reduceAdd, Nat.reduceSub, Nat.reducePow, Nat.reduceMul, Nat.reduceEqDiff, Nat.reduceLT, Nat.reduceLeDiff, Int.reduceToNat, Int.reduceLT, Int.reduceLE, Int.reduceEq, Int.reduceNeg, Int.reduceAdd, Int.reduceSub, Int.reduceMul]
    refine kfcW_set (by simp only [List.length_append, List.length_cons, List.length_nil]; omega) (fun L => mport2_fc _ _ (witS a b || witD a b) (by simp (disch := first | omega | (simp only [List.length_append, List.length_cons, List.length_nil]; omega)) only [go_sem, fill_c, ↓reduceIte, reduceCtorEq, Nat.reduceAdd, Nat.reduceSub, Nat.reducePow, Nat.reduceMul, Nat.reduceEqDiff, Nat.reduceLT, Nat.reduceLeDiff, Int.reduceToNat, Int.reduceLT, Int.reduceLE, Int.reduceEq, Int.reduceNeg, Int.reduceAdd, Int.reduceSub, Int.reduceMul]) _ _ _ _) ?_
    simp (disch := first | omega | (simp only [List.length_append, List.length_cons, List.length_nil]; omega)) only [la, lb, ru_s, ru_d, ru_l18, ru_d36, ru_d38, ru_d40, ru_d41, ruT, ru_0, oa, ob, go_sem, ↓reduceIte, reduceCtorEq, Nat.reduceAdd, Nat.reduceSub, Nat.reducePow, Nat.reduceMul, Nat.reduceEqDiff, Nat.reduceLT, Nat.reduceLeDiff, Int.reduceToNat, Int.reduceLT, Int.reduceLE, Int.reduceEq, Int.reduceNeg, Int.reduceAdd, Int.reduceSub, Int.reduceMul]
    refine kfcW_set (by simp only [List.length_append, List.length_cons, List.length_nil]; omega) (fun L => mport2_fc _ _ ((witS a b || witD a b) || !meetB a.slo a.shi b.slo b.shi) (by simp (disch := first | omega | (simp only [List.length_append, List.length_cons, List.length_nil]; omega)) only [go_sem, fill_c, ↓reduceIte, reduceCtorEq, Nat.reduceAdd, Nat.reduceSub, Nat.reducePow, Nat.reduceMul, Nat.reduceEqDiff, Nat.reduceLT, Nat.reduceLeDiff, Int.reduceToNat, Int.reduceLT, Int.reduceLE, Int.reduceEq, Int.reduceNeg, Int.reduceAdd, Int.reduceSub, Int.reduceMul]) _ _ _ _) ?_
    simp (disch := first | omega | (simp only [List.length_append, List.length_cons, List.length_nil]; omega)) only [la, lb, ru_s, ru_d, ru_l18, ru_d36, ru_d38, ru_d40, ru_d41, ruT, ru_0, oa, ob, go_sem, ↓reduceIte, reduceCtorEq, Nat.reduceAdd, Nat.reduceSub, Nat.reducePow, Nat.reduceMul, Nat.reduceEqDiff, Nat.reduceLT, Nat.reduceLeDiff, Int.reduceToNat, Int.reduceLT, Int.reduceLE, Int.reduceEq, Int.reduceNeg, Int.reduceAdd, Int.reduceSub, Int.reduceMul]
    refine kfcW_set (by simp only [List.length_append, List.length_cons, List.length_nil]; omega) (fun L => number_fc _ _ (((witS a b || witD a b) || !meetB a.slo a.shi b.slo b.shi) || !meetB a.dlo a.dhi b.dlo b.dhi) (by simp (disch := first | omega | (simp only [List.length_append, List.length_cons, List.length_nil]; omega)) only [go_sem, fill_c, ↓reduceIte, reduceCtorEq, Nat.reduceAdd, Nat.reduceSub, Nat.reducePow, Nat.reduceMul, Nat.reduceEqDiff, Nat.reduceLT, Nat.reduceLeDiff, Int.reduceToNat, Int.reduceLT, Int.reduceLE, Int.reduceEq, Int.reduceNeg, Int.reduceAdd, Int.reduceSub, Int.reduceMul]) _ _ _) ?_
    simp (disch := first | omega | (simp only [List.length_append, List.length_cons, List.length_nil]; omega)) only [la, lb, ru_s, ru_d, ru_l18, ru_d36, ru_d38, ru_d40, ru_d41, ruT, ru_0, oa, ob, go_sem, ↓reduceIte, reduceCtorEq, Nat.reduceAdd, Nat.reduceSub, Nat.reducePow, Nat.reduceMul, Nat.reduceEqDiff, Nat.reduceLT, Nat.reduceLeDiff, Int.reduceToNat, Int.reduceLT, Int.reduceLE, Int.reduceEq, Int.reduceNeg, Int.reduceAdd, Int.reduceSub, Int.reduceMul]
    refine kfcW_set (by simp only [List.length_append, List.length_cons, List.length_nil]; omega) (fun L => number_fc _ _ ((((witS a b || witD a b) || !meetB a.slo a.shi b.slo b.shi) || !meetB a.dlo a.dhi b.dlo b.dhi) || numP a.proto b.proto) (by simp (disch := first | omega | (simp only [List.length_append, List.length_cons, List.length_nil]; omega)) only [go_sem, fill_c, ↓reduceIte, reduceCtorEq, Nat.reduceAdd, Nat.reduceSub, Nat.reducePow, Nat.reduceMul, Nat.reduceEqDiff, Nat.reduceLT, Nat.reduceLeDiff, Int.reduceToNat, Int.reduceLT, Int.reduceLE, Int.reduceEq, Int.reduceNeg, Int.reduceAdd, Int.reduceSub, Int.reduceMul]) _ _ _) ?_
    change gq _ _ _ _ ⟨_, List.set _ _ (.box [.bool (witP a b)])⟩
    simp (disch := first | omega | (simp only [List.length_append, List.length_cons, List.length_nil]; omega)) only [la, lb, ru_s, ru_d, ru_l18, ru_d36, ru_d38, ru_d40, ru_d41, ruT, ru_0, oa, ob, go_sem, ↓reduceIte, reduceCtorEq, Nat.reduceAdd, Nat.reduceSub, Nat.reducePow, Nat.reduceMul, Nat.reduceEqDiff, Nat.reduceLT, Nat.reduceLeDiff, Int.reduceToNat, Int.reduceLT, Int.reduceLE, Int.reduceEq, Int.reduceNeg, Int.reduceAdd, Int.reduceSub, Int.reduceMul]
    have kf' : fillD (ky kyNo) [(0, 1, .int .i64 a.sv), (1, 16, .agg (ofBytes (if b.sn < a.sn then a.sa else b.sa))), (17, 16, .agg (ofBytes (if b.dn < a.dn then a.da else b.da))), (35, 1, .bool true), (36, 1, .int .i64 (meetLo a.slo a.shi b.slo b.shi)),
      (37, 1, .int .i64 (meetLo a.dlo a.dhi b.dlo b.dhi)), (33, 1, .int .i64 (numF a.proto b.proto 6)), (34, 1, .int .i64 (numF a.dscp b.dscp 0))] = some (ky (witK' a b)) := kf
    rw [kf']
    simp (disch := first | omega | (simp only [List.length_append, List.length_cons, List.length_nil]; omega)) only [nl, n1, nt, kl, k1, kt, go_sem, ↓reduceIte, reduceCtorEq, Nat.reduceAdd, Nat.reduceSub, Nat.reducePow, Nat.reduceMul, Nat.reduceEqDiff, Nat.reduceLT, Nat.reduceLeDiff, Int.reduceToNat, Int.reduceLT, Int.reduceLE, Int.reduceEq, Int.reduceNeg, Int.reduceAdd, Int.reduceSub, Int.reduceMul]
    cases h2 : witP a b with
    | true =>
      have e : witB a b = false := by rw [witB, h1, h2]; rfl
      have e2 : witK a b = kyNo := by rw [witK, e]; rfl
      rw [e, e2]
      simp (disch := first | omega | (simp only [List.length_append, List.length_cons, List.length_nil]; omega)) only [fill0, nl, n1, nt, go_sem, ↓reduceIte, reduceCtorEq, Nat.reduceAdd, Nat.reduceSub, Nat.reducePow, Nat.reduceMul, Nat.reduceEqDiff, Nat.reduceLT, Nat.reduceLeDiff, Int.reduceToNat, Int.reduceLT, Int.reduceLE, Int.reduceEq, Int.reduceNeg, Int.reduceAdd, Int.reduceSub, Int.reduceMul]
      exact FinOk.drop (.inl rfl) (by simp [underL, underD, ky_under kyNo_ok]) ⟨rfl, rfl⟩
    | false =>
      have e : witB a b = true := by rw [witB, h1, h2]; rfl
      have e2 : witK a b = witK' a b := by rw [witK, e]; rfl
      rw [e, e2]
      simp (disch := first | omega | (simp only [List.length_append, List.length_cons, List.length_nil]; omega)) only [fill0, nl, n1, nt, kl, k1, kt, go_sem, ↓reduceIte, reduceCtorEq, Nat.reduceAdd, Nat.reduceSub, Nat.reducePow, Nat.reduceMul, Nat.reduceEqDiff, Nat.reduceLT, Nat.reduceLeDiff, Int.reduceToNat, Int.reduceLT, Int.reduceLE, Int.reduceEq, Int.reduceNeg, Int.reduceAdd, Int.reduceSub, Int.reduceMul]
      exact FinOk.drop (.inl rfl) (by simp [underL, underD, ky_under (witK'_ok oa ob)]) ⟨rfl, rfl⟩
theorem meets_fc (h : Heap) (a b : Ru) (oa : a.Ok) (ob : b.Ok) : FC Try.prog 10 [.agg (ru a), .agg (ru b)] h fun d h' => d = .bool (witB a b) ∧ h' = h := by
  have la := ru_len oa
  have lb := ru_len ob
  have kl := ky_len (witK_ok oa ob)
  have k1 := ky_one (witK_ok oa ob)
  have kt := ky_take (witK_ok oa ob)
  refine FC.goes cf10 ?_; simp only [c10]; simp only [List.length_cons, List.length_nil, Nat.reduceAdd, Nat.reduceSub, List.replicate_succ, List.replicate_zero, List.cons_append, List.nil_append]
  simp (disch := first | omega | (simp only [List.length_append, List.length_cons, List.length_nil]; omega)) only [c10r0, c10r1, c10r2, la, lb, ru_one, ru_take, oa, ob, go_sem, ↓reduceIte, reduceCtorEq, Nat.reduceAdd, Nat.reduceSub, Nat.reducePow, Nat.reduceMul, Nat.reduceEqDiff, Nat.reduceLT, Nat.reduceLeDiff, Int.reduceToNat, Int.reduceLT, Int.reduceLE, Int.reduceEq, Int.reduceNeg, Int.reduceAdd, Int.reduceSub, Int.reduceMul]
  refine gfc_same (witness_fc _ a b oa ob) ?_
  simp (disch := first | omega | (simp only [List.length_append, List.length_cons, List.length_nil]; omega)) only [kl, k1, kt, go_sem, ↓reduceIte, reduceCtorEq, Nat.reduceAdd, Nat.reduceSub, Nat.reducePow, Nat.reduceMul, Nat.reduceEqDiff, Nat.reduceLT, Nat.reduceLeDiff, Int.reduceToNat, Int.reduceLT, Int.reduceLE, Int.reduceEq, Int.reduceNeg, Int.reduceAdd, Int.reduceSub, Int.reduceMul]
  exact FinOk.drop (.inl rfl) (by simp [underL, underD]) ⟨rfl, rfl⟩
end Go.Proofs

/-
  Own work. Plain laws: what a rule covers, and what has both of two.
-/
namespace Go.Proofs
open Go Go.Ytodlpcoffmnmbaa
set_option linter.unusedVariables false
set_option linter.unusedSimpArgs false
set_option maxRecDepth 10000

/-! ### Prefixes -/
theorem has_iff {p n v : Int} {a b : List UInt8} : hasF p a n v b = true ↔ checkF p a n = 0 ∧ v = p ∧ frontTo b n.toNat = a := by
  simp only [hasF, Bool.and_eq_true, decide_eq_true_eq]
theorem within_iff {v n w m : Int} {a b : List UInt8} : withinF v a n w b m = true ↔ checkF v a n = 0 ∧ m ≤ n ∧ checkF w b m = 0 ∧ v = w ∧ frontTo a m.toNat = b := by
  simp only [withinF, Bool.and_eq_true, decide_eq_true_eq, has_iff]
theorem check_facts {v n : Int} {a : List UInt8} (h : checkF v a n = 0) : 0 ≤ n ∧ n ≤ 128 ∧ frontTo a n.toNat = a := by
  have h1 := check_fits h
  obtain ⟨m, _, _, h2, h3, h4⟩ := fits_most h1
  refine ⟨h2, by omega, ?_⟩
  unfold checkF at h
  rw [if_neg (by simp [h1])] at h
  split at h
  · assumption
  · cases h
theorem front_front (c : List UInt8) {m n : Nat} (hmn : m ≤ n) (hn : n ≤ 128) : frontTo (frontTo c n) m = frontTo c m := by
  refine addr_ext (frontTo_length _ _) (frontTo_length _ _) fun i hi => ?_
  rw [frontTo_bit _ _ (by omega), frontTo_bit _ _ hn, frontTo_bit _ _ (by omega)]
  by_cases h : i < m
  · simp [h, show i < n by omega]
  · simp [h]
/-- What is in a prefix is in a wider one. -/
theorem has_wider {v n w m x : Int} {a b c : List UInt8} (h1 : hasF v a n x c = true) (h2 : withinF v a n w b m = true) : hasF w b m x c = true := by
  rw [has_iff] at h1 ⊢
  rw [within_iff] at h2
  obtain ⟨h3, rfl, h5⟩ := h1
  obtain ⟨_, h7, h8, h9, h10⟩ := h2
  have f1 := check_facts h3
  have f2 := check_facts h8
  refine ⟨h8, h9, ?_⟩
  rw [← h10, ← h5, front_front _ (by omega) (by omega)]
/-- What has an address in common lies in one another. -/
theorem has_both {v n w m x : Int} {a b c : List UInt8} (h1 : hasF v a n x c = true) (h2 : hasF w b m x c = true) : (withinF v a n w b m || withinF w b m v a n) = true := by
  rw [has_iff] at h1 h2
  obtain ⟨h3, rfl, h5⟩ := h1
  obtain ⟨h6, h7, h8⟩ := h2
  have f1 := check_facts h3
  have f2 := check_facts h6
  rw [Bool.or_eq_true, within_iff, within_iff]
  by_cases h : m ≤ n
  · exact .inl ⟨h3, h, h6, h7, by rw [← h5, front_front _ (by omega) (by omega), h8]⟩
  · exact .inr ⟨h6, by omega, h3, h7.symm, by rw [← h8, front_front _ (by omega) (by omega), h5]⟩
/-- The longer one's address has both. -/
theorem longer_both {v n w m : Int} {a b : List UInt8} (h : (withinF v a n w b m || withinF w b m v a n) = true) :
    hasF v a n v (if m < n then a else b) = true ∧ hasF w b m v (if m < n then a else b) = true := by
  rw [Bool.or_eq_true, within_iff, within_iff] at h
  rw [has_iff, has_iff]
  rcases h with ⟨h1, h2, h3, h4, h5⟩ | ⟨h1, h2, h3, h4, h5⟩
  · have f1 := check_facts h1
    have f2 := check_facts h3
    by_cases hc : m < n
    · rw [if_pos hc]; exact ⟨⟨h1, rfl, f1.2.2⟩, h3, h4, h5⟩
    · rw [if_neg hc]
      have e : m = n := by omega
      rw [e, f1.2.2] at h5
      subst h5
      exact ⟨⟨h1, rfl, f1.2.2⟩, h3, h4, by rw [e]; exact f1.2.2⟩
  · have f1 := check_facts h1
    have f2 := check_facts h3
    rw [if_neg (by omega)]
    exact ⟨⟨h3, rfl, h5⟩, h1, h4.symm, f1.2.2⟩

/-! ### Spans, numbers -/
theorem span_iff {lo hi : Int} : spanChk lo hi = 0 ↔ 0 ≤ lo ∧ lo ≤ hi ∧ hi ≤ 65535 := by
  unfold spanChk
  split
  · split <;> omega
  · constructor
    · intro h; cases h
    · intro h; omega
theorem port_iff {lo hi n : Int} {p : Bool} : portOk lo hi p n = true ↔ (lo = 0 ∧ hi = 65535) ∨ (p = true ∧ spanChk lo hi = 0 ∧ lo ≤ n ∧ n ≤ hi) := by
  simp only [portOk, spanHas, Bool.or_eq_true, Bool.and_eq_true, beq_iff_eq, decide_eq_true_eq]
theorem meet_iff {a b c d : Int} : meetB a b c d = true ↔ spanChk a b = 0 ∧ spanChk c d = 0 ∧ ¬ min b d < max a c := by
  simp only [meetB, Bool.and_eq_true, decide_eq_true_eq, Bool.not_eq_true', decide_eq_false_iff_not]
theorem wider_iff {a b c d : Int} : widerF a b c d = true ↔ (a = 0 ∧ b = 65535) ∨ (¬ (c = 0 ∧ d = 65535) ∧ a ≤ c ∧ d ≤ b) := by
  simp only [widerF, Bool.or_eq_true, Bool.and_eq_true, beq_iff_eq, decide_eq_true_eq, Bool.not_eq_true', Bool.and_eq_false_iff, beq_eq_false_iff_ne]
  constructor
  · rintro (h | ⟨h, h2⟩)
    · exact .inl h
    · exact .inr ⟨by omega, h2⟩
  · rintro (h | ⟨h, h2⟩)
    · exact .inl h
    · exact .inr ⟨by omega, h2⟩
theorem wish_iff {w n : Int} : wishOk w n = true ↔ w = -1 ∨ w = n := by simp only [wishOk, Bool.or_eq_true, decide_eq_true_eq]
structure RuFacts (r : Ru) : Prop where
  src : checkF r.sv r.sa r.sn = 0
  dst : checkF r.dv r.da r.dn = 0
  ver : r.sv = r.dv
  sp : spanChk r.slo r.shi = 0
  dp : spanChk r.dlo r.dhi = 0
  pr : -1 ≤ r.proto ∧ r.proto ≤ 255
  ds : -1 ≤ r.dscp ∧ r.dscp ≤ 63
  cl : 0 ≤ r.cls ∧ r.cls < 16
theorem ru_facts {r : Ru} (h : ruChk r = 0) : RuFacts r := by
  unfold ruChk at h
  by_cases h1 : checkF r.sv r.sa r.sn = 0
  · by_cases h2 : checkF r.dv r.da r.dn = 0
    · by_cases h3 : r.sv = r.dv
      · by_cases h4 : spanChk r.slo r.shi = 0
        · by_cases h5 : spanChk r.dlo r.dhi = 0
          · rw [if_neg (fun f => f h1), if_neg (fun f => f h2), if_neg (fun f => f h3), if_neg (fun f => f h4), if_neg (fun f => f h5)] at h
            split at h
            · cases h
            · split at h
              · cases h
              · split at h
                · cases h
                · exact ⟨h1, h2, h3, h4, h5, by omega, by omega, by omega⟩
          · rw [if_neg (fun f => f h1), if_neg (fun f => f h2), if_neg (fun f => f h3), if_neg (fun f => f h4), if_pos h5] at h; exact absurd h h5
        · rw [if_neg (fun f => f h1), if_neg (fun f => f h2), if_neg (fun f => f h3), if_pos h4] at h; exact absurd h h4
      · rw [if_neg (fun f => f h1), if_neg (fun f => f h2), if_pos h3] at h; cases h
    · rw [if_neg (fun f => f h1), if_pos h2] at h; exact absurd h h2
  · rw [if_pos h1] at h; exact absurd h h1
theorem match_iff {r : Ru} {k : Ky} : ruMatch r k = true ↔ ruChk r = 0 ∧ hasF r.sv r.sa r.sn k.v k.s = true ∧ hasF r.dv r.da r.dn k.v k.d = true ∧ portOk r.slo r.shi k.ports k.sp = true ∧ portOk r.dlo r.dhi k.ports k.dp = true ∧ wishOk r.proto k.proto = true ∧ wishOk r.dscp k.dscp = true := by
  simp only [ruMatch, Bool.and_eq_true, decide_eq_true_eq]
theorem covers_iff {a b : Ru} : coversF a b = true ↔ (ruChk a = 0 ∧ ruChk b = 0) ∧ withinF b.sv b.sa b.sn a.sv a.sa a.sn = true ∧ withinF b.dv b.da b.dn a.dv a.da a.dn = true ∧ widerF a.slo a.shi b.slo b.shi = true ∧ widerF a.dlo a.dhi b.dlo b.dhi = true ∧ wishOk a.proto b.proto = true ∧ wishOk a.dscp b.dscp = true := by
  simp only [coversF, bothOk, Bool.and_eq_true, decide_eq_true_eq]
theorem wit_iff {a b : Ru} : witB a b = true ↔ (ruChk a = 0 ∧ ruChk b = 0) ∧ (withinF a.sv a.sa a.sn b.sv b.sa b.sn || withinF b.sv b.sa b.sn a.sv a.sa a.sn) = true ∧ (withinF a.dv a.da a.dn b.dv b.da b.dn || withinF b.dv b.da b.dn a.dv a.da a.dn) = true ∧
    meetB a.slo a.shi b.slo b.shi = true ∧ meetB a.dlo a.dhi b.dlo b.dhi = true ∧ (a.proto = -1 ∨ b.proto = -1 ∨ a.proto = b.proto) ∧ (a.dscp = -1 ∨ b.dscp = -1 ∨ a.dscp = b.dscp) := by
  have hn : ∀ x y : Int, numP x y = false ↔ (x = -1 ∨ y = -1 ∨ x = y) := by
    intro x y
    simp only [numP, decide_eq_false_iff_not]; omega
  simp only [witB, witP, witS, witD, bothOk, Bool.and_eq_true, decide_eq_true_eq, Bool.not_eq_true', Bool.or_eq_false_iff, Bool.not_eq_false', hn]
  constructor
  · rintro ⟨h, ⟨⟨⟨⟨h1, h2⟩, h3⟩, h4⟩, h5⟩, h6⟩
    exact ⟨h, h1, h2, h3, h4, h5, h6⟩
  · rintro ⟨h, h1, h2, h3, h4, h5, h6⟩
    exact ⟨h, ⟨⟨⟨⟨h1, h2⟩, h3⟩, h4⟩, h5⟩, h6⟩

/-! ### What ShadowTrue says -/
theorem port_covers {a b c d n : Int} {p : Bool} (ha : spanChk a b = 0) (hw : widerF a b c d = true) (h : portOk c d p n = true) : portOk a b p n = true := by
  rw [port_iff] at h ⊢
  rw [wider_iff] at hw
  rcases hw with hw | ⟨h1, h2, h3⟩
  · exact .inl hw
  · rcases h with h | ⟨h4, h5, h6, h7⟩
    · exact absurd h h1
    · exact .inr ⟨h4, ha, by omega, by omega⟩
theorem port_both {a b c d n : Int} {p : Bool} (ha : spanChk a b = 0) (hc : spanChk c d = 0) (h1 : portOk a b p n = true) (h2 : portOk c d p n = true) : meetB a b c d = true := by
  rw [port_iff] at h1 h2
  rw [meet_iff]
  refine ⟨ha, hc, ?_⟩
  rw [span_iff] at ha hc
  rcases h1 with h1 | ⟨_, _, h3, h4⟩ <;> rcases h2 with h2 | ⟨_, _, h5, h6⟩ <;> omega
theorem port_lo {a b c d : Int} (h : meetB a b c d = true) : portOk a b true (meetLo a b c d) = true ∧ portOk c d true (meetLo a b c d) = true := by
  have e : meetLo a b c d = max a c := by rw [meetLo, if_pos h]
  rw [e, port_iff, port_iff]
  rw [meet_iff] at h
  obtain ⟨ha, hc, h1⟩ := h
  refine ⟨.inr ⟨rfl, ha, ?_, ?_⟩, .inr ⟨rfl, hc, ?_, ?_⟩⟩ <;> omega
theorem wider_meet {a b c d : Int} (ha : spanChk a b = 0) (hc : spanChk c d = 0) (h : widerF a b c d = true) : meetB a b c d = true := by
  rw [wider_iff] at h
  rw [meet_iff]
  refine ⟨ha, hc, ?_⟩
  rw [span_iff] at ha hc
  rcases h with h | ⟨_, h1, h2⟩ <;> omega
/-- What a rule covers has no key without it. -/
theorem covers_match {a b : Ru} {k : Ky} (h : coversF a b = true) (hb : ruMatch b k = true) : ruMatch a k = true := by
  rw [covers_iff] at h
  rw [match_iff] at hb ⊢
  obtain ⟨⟨h1, _⟩, h2, h3, h4, h5, h6, h7⟩ := h
  obtain ⟨_, g1, g2, g3, g4, g5, g6⟩ := hb
  have fa := ru_facts h1
  refine ⟨h1, has_wider g1 h2, has_wider g2 h3, port_covers fa.sp h4 g3, port_covers fa.dp h5 g4, ?_, ?_⟩
  · rw [wish_iff] at *; omega
  · rw [wish_iff] at *; omega
/-- What has a key in common meets. -/
theorem match_meets {a b : Ru} {k : Ky} (ha : ruMatch a k = true) (hb : ruMatch b k = true) : witB a b = true := by
  rw [match_iff] at ha hb
  obtain ⟨f0, f1, f2, f3, f4, f5, f6⟩ := ha
  obtain ⟨g0, g1, g2, g3, g4, g5, g6⟩ := hb
  have fa := ru_facts f0
  have fb := ru_facts g0
  rw [wish_iff] at f5 f6 g5 g6
  rw [wit_iff]
  exact ⟨⟨f0, g0⟩, has_both f1 g1, has_both f2 g2, port_both fa.sp fb.sp f3 g3, port_both fa.dp fb.dp f4 g4, by omega, by omega⟩
/-- A witness has both. -/
theorem wit_match {a b : Ru} (h : witB a b = true) : ruMatch a (witK a b) = true ∧ ruMatch b (witK a b) = true := by
  have e : witK a b = witK' a b := by rw [witK, if_pos h]
  rw [e]
  rw [wit_iff] at h
  obtain ⟨⟨h0, h1⟩, h2, h3, h4, h5, h6, h7⟩ := h
  have fa := ru_facts h0
  have fb := ru_facts h1
  obtain ⟨s1, s2⟩ := longer_both h2
  obtain ⟨d1, d2⟩ := longer_both h3
  rw [← fa.ver] at d1 d2
  obtain ⟨p1, p2⟩ := port_lo h4
  obtain ⟨q1, q2⟩ := port_lo h5
  have num : ∀ x y o : Int, (x = -1 ∨ y = -1 ∨ x = y) → wishOk x (numF x y o) = true ∧ wishOk y (numF x y o) = true := by
    intro x y o hxy
    rw [wish_iff, wish_iff]
    unfold numF
    split
    · omega
    · split <;> omega
  rw [match_iff, match_iff]
  refine ⟨⟨h0, s1, ?_, p1, q1, (num _ _ 6 h6).1, (num _ _ 0 h7).1⟩, h1, s2, d2, p2, q2, (num _ _ 6 h6).2, (num _ _ 0 h7).2⟩
  show hasF a.dv a.da a.dn a.sv _ = true
  rw [← fa.ver]; exact d1
/-- What covers another one that may be meets it. -/
theorem covers_meets {a b : Ru} (h : coversF a b = true) : witB a b = true := by
  rw [covers_iff] at h
  obtain ⟨⟨h0, h1⟩, h2, h3, h4, h5, h6, h7⟩ := h
  have fa := ru_facts h0
  have fb := ru_facts h1
  rw [wish_iff] at h6 h7
  rw [wit_iff]
  exact ⟨⟨h0, h1⟩, by rw [h2, Bool.or_true], by rw [h3, Bool.or_true], wider_meet fa.sp fb.sp h4, wider_meet fa.dp fb.dp h5, by omega, by omega⟩
end Go.Proofs

/-
  Own work. The walk of shadow.Why.
-/
namespace Go.Proofs
open Go Go.Ytodlpcoffmnmbaa
set_option linter.unusedVariables false
set_option linter.unusedSimpArgs false
set_option maxRecDepth 10000

/-! ### weighbridge/shadow.Why, params 2 -/
def c14r0 : List AStm := [.op (some 2) none (.box (.t 0)),
    .op (some 3) none (.box (.t 1)),
    .op (some 4) none (.mv (.c (.int .i64 0)))]
def c14r1 : List AStm := [.op (some 8) none (.load (some 43) (.t 2)),
    .op (some 9) none (.bslice 43 [(.int .i64 0), (.int .u8 0), (.int .u8 0), (.int .u8 0), (.int .u8 0), (.int .u8 0), (.int .u8 0), (.int .u8 0), (.int .u8 0), (.int .u8 0), (.int .u8 0), (.int .u8 0), (.int .u8 0), (.int .u8 0), (.int .u8 0), (.int .u8 0), (.int .u8 0), (.int .i64 0), (.int .i64 0), (.int .u8 0), (.int .u8 0), (.int .u8 0), (.int .u8 0), (.int .u8 0), (.int .u8 0), (.int .u8 0), (.int .u8 0), (.int .u8 0), (.int .u8 0), (.int .u8 0), (.int .u8 0), (.int .u8 0), (.int .u8 0), (.int .u8 0), (.int .u8 0), (.int .i64 0), (.int .i64 0), (.int .i64 0), (.int .i64 0), (.int .i64 0), (.int .i64 0), (.int .i64 0), (.int .i64 0)] 1 [(0, 43, (.t 8))]),
    .call (some 10) none (.c (.fn (.func 38) [] [])) [(.t 9)],
    .op (some 11) none (.un .not (.t 10))]
def c14r2 : List AStm := [.op (some 4) none (.mv (.c (.int .i64 (-2))))]
def c14r3 : List AStm := [.op (some 12) none (.mkfn (.func 50) [] [(.t 3)]),
    .op (some 5) none (.mv (.t 12))]
def c14r4 : List AStm := [.op (some 6) none (.mv (.c (.fn (.func 51) [] [])))]
def c14r5 : List AStm := [.op (some 13) none (.faddr 0 (.t 2)),
    .op (some 14) none (.load (some 18) (.t 13)),
    .op (some 15) none (.faddr 0 (.t 3)),
    .op (some 16) none (.load none (.t 15)),
    .op (some 17) none (.faddr 1 (.t 3)),
    .op (some 18) none (.load (some 16) (.t 17)),
    .callL (some 19) none (.c (.fn (.func 27) [] [])) [(.t 14), (.t 16), (.t 18)],
    .op (some 20) none (.faddr 18 (.t 2)),
    .op (some 21) none (.load (some 18) (.t 20)),
    .op (some 22) none (.faddr 0 (.t 3)),
    .op (some 23) none (.load none (.t 22)),
    .op (some 24) none (.faddr 17 (.t 3)),
    .op (some 25) none (.load (some 16) (.t 24)),
    .callL (some 26) none (.c (.fn (.func 27) [] [])) [(.t 21), (.t 23), (.t 25)],
    .op (some 27) none (.mv (.t 5)),
    .op (some 28) none (.faddr 36 (.t 2)),
    .op (some 29) none (.load (some 2) (.t 28)),
    .op (some 30) none (.faddr 36 (.t 3)),
    .op (some 31) none (.load none (.t 30)),
    .callL (some 32) none (.t 27) [(.t 29), (.t 31)],
    .op (some 33) none (.mv (.t 5)),
    .op (some 34) none (.faddr 38 (.t 2)),
    .op (some 35) none (.load (some 2) (.t 34)),
    .op (some 36) none (.faddr 37 (.t 3)),
    .op (some 37) none (.load none (.t 36)),
    .callL (some 38) none (.t 33) [(.t 35), (.t 37)],
    .op (some 39) none (.mv (.t 6)),
    .op (some 40) none (.faddr 40 (.t 2)),
    .op (some 41) none (.load none (.t 40)),
    .op (some 42) none (.faddr 33 (.t 3)),
    .op (some 43) none (.load none (.t 42)),
    .callL (some 44) none (.t 39) [(.t 41), (.t 43)],
    .op (some 45) none (.mv (.t 6)),
    .op (some 46) none (.faddr 41 (.t 2)),
    .op (some 47) none (.load none (.t 46)),
    .op (some 48) none (.faddr 34 (.t 3)),
    .op (some 49) none (.load none (.t 48)),
    .callL (some 50) none (.t 45) [(.t 47), (.t 49)],
    .op (some 51) none (.build (List.replicate 6 (.bool false)) [(0, 1, (.t 19)), (1, 1, (.t 26)), (2, 1, (.t 32)), (3, 1, (.t 38)), (4, 1, (.t 44)), (5, 1, (.t 50))]),
    .op (some 7) none (.alloc (List.replicate 6 (.bool false))),
    .op none none (.store 6 (.t 7) (.t 51))]
def c14r6 : List AStm := []
def c14r7 : List AStm := [.op (some 52) none (.sarr 6 1 (.t 7) none none),
    .call (some 53) none (.c (.fn (.func 52) [] [])) [(.t 52), (.c (.bool false))],
    .op (some 4) none (.mv (.t 53))]
def c14 : CF := ⟨.seq (.reg c14r0) (.seq (.seq (.reg c14r1) (.cond (.t 11) (.seq (.reg c14r2) (.ret)) (.skip))) (.seq (.reg c14r3) (.seq (.reg c14r4) (.seq (.dreg c14r5 c14r6) (.seq (.reg c14r7) (.ret)))))), [.tmp 4], 54⟩
theorem cf14 : cfun Try.prog 14 = some c14 := by kernel_rfl

/-! ### weighbridge/shadow.Why$1, params 2 -/
def c50r0 : List AStm := [.op (some 3) none (.box (.t 0)),
    .op (some 5) none (.mv (.c (.bool false)))]
def c50r1 : List AStm := []
def c50r2 : List AStm := [.op (some 6) none (.load (some 2) (.t 3)),
    .callG (some 7) none (.c (.fn (.func 35) [] [])) [],
    .op (some 8) none (.eqa false [.ki, .ki] (.t 6) (.t 7)),
    .op (some 9) none (.mv (.t 8)),
    .op (some 10) (some (9, false)) (.faddr 35 (.t 2)),
    .op (some 11) (some (9, false)) (.load none (.t 10)),
    .op (some 12) (some (9, false)) (.mv (.t 11)),
    .op (some 13) (some (12, true)) (.load (some 2) (.t 3)),
    .op (some 14) (some (12, true)) (.mv (.t 1)),
    .call (some 15) (some (12, true)) (.c (.fn (.func 36) [] [])) [(.t 13), (.t 14)],
    .op (some 16) (some (9, false)) (.pick (.t 12) (.t 15) (.c (.bool false))),
    .op (some 17) none (.pick (.t 9) (.c (.bool true)) (.t 16)),
    .op (some 5) none (.mv (.t 17))]
def c50 : CF := ⟨.seq (.reg c50r0) (.seq (.dreg c50r1 c50r2) (.ret)), [.tmp 5], 18⟩
theorem cf50 : cfun Try.prog 50 = some c50 := by kernel_rfl

/-! ### weighbridge/shadow.Why$2, params 2 -/
def c51r0 : List AStm := [.op (some 4) none (.mv (.c (.bool false)))]
def c51r1 : List AStm := [.op (some 5) none (.mv (.t 0)),
    .op (some 6) none (.bin .eql (.t 5) (.c (.int .i64 (-1)))),
    .op (some 7) none (.mv (.t 6)),
    .op (some 8) (some (7, false)) (.mv (.t 0)),
    .op (some 9) (some (7, false)) (.mv (.t 1)),
    .op (some 10) (some (7, false)) (.bin .eql (.t 8) (.t 9)),
    .op (some 11) none (.pick (.t 7) (.c (.bool true)) (.t 10)),
    .op (some 4) none (.mv (.t 11))]
def c51 : CF := ⟨.seq (.reg c51r0) (.seq (.reg c51r1) (.ret)), [.tmp 4], 12⟩
theorem cf51 : cfun Try.prog 51 = some c51 := by kernel_rfl

/-! ### slices.Index[[]bool,bool], params 2 -/
def c52r0 : List AStm := [.op (some 4) none (.mv (.c (.int .i64 0)))]
def c52r1 : List AStm := [.op (some 6) none (.mv (.t 0)),
    .op (some 7) none (.len false (.t 6)),
    .op (some 8) none (.mv (.c (.int .i64 0)))]
def c52r2 : List AStm := [.op (some 9) none (.bin .lss (.t 8) (.t 7))]
def c52r3 : List AStm := [.op (some 10) none (.mv (.t 8)),
    .op (some 5) none (.mv (.t 10))]
def c52r4 : List AStm := [.op (some 11) none (.mv (.t 1)),
    .op (some 12) none (.mv (.t 0)),
    .op (some 13) none (.mv (.t 5)),
    .op (some 14) none (.ixs 1 (.t 12) (.t 13)),
    .op (some 15) none (.load none (.t 14)),
    .op (some 16) none (.eqb false (.t 11) (.t 15))]
def c52r5 : List AStm := [.op (some 17) none (.mv (.t 5)),
    .op (some 4) none (.mv (.t 17))]
def c52r6 : List AStm := [.op (some 18) none (.bin .add (.t 8) (.c (.int .i64 1))),
    .op (some 8) none (.mv (.t 18))]
def c52l7 : AC := .seq (.reg c52r2) (.seq (.cond (.t 9) (.skip) (.exit 0)) (.seq (.block 1 (.seq (.reg c52r3) (.seq (.reg c52r4) (.cond (.t 16) (.seq (.reg c52r5) (.ret)) (.skip))))) (.reg c52r6)))
def c52r8 : List AStm := [.op (some 4) none (.mv (.c (.int .i64 (-1))))]
def c52 : CF := ⟨.seq (.reg c52r0) (.seq (.seq (.reg c52r1) (.block 0 (.loop c52l7))) (.seq (.reg c52r8) (.ret))), [.tmp 4], 19⟩
theorem cf52 : cfun Try.prog 52 = some c52 := by kernel_rfl



theorem wport_fc (h : Heap) (k : Ky) (kok : k.Ok) (r : Nat) (hb : h[r]? = some (.box (ky k))) (lo hi n : Int) :
    FC Try.prog 50 [.agg [.int .i64 lo, .int .i64 hi], .int .i64 n, .ref r 0] h fun d h' => d = .bool (portOk lo hi k.ports n) ∧ h' = h := by
  have hb2 : ∀ L : Heap, (h ++ L)[r]? = some (.box (ky k)) := fun L => by
    rw [List.getElem?_append_left (List.getElem?_eq_some_iff.1 hb).1]; exact hb
  refine FC.goes cf50 ?_; simp only [c50]; simp only [List.length_cons, List.length_nil, Nat.reduceAdd, Nat.reduceSub, List.replicate_succ, List.replicate_zero, List.cons_append, List.nil_append]
  simp (disch := first | omega | (simp only [List.length_append, List.length_cons, List.length_nil]; omega)) only [c50r0, c50r1, c50r2, go_sem, fill_c, ↓reduceIte, reduceCtorEq, Nat.reduceAdd, Nat.reduceSub, Nat.reducePow, Nat.reduceMul, Nat.reduceEqDiff, Nat.reduceLT, Nat.reduceLeDiff, Int.reduceToNat, Int.reduceLT, Int.reduceLE, Int.reduceEq, Int.reduceNeg, Int.reduceAdd, Int.reduceSub, Int.reduceMul]
  refine xfc_same (sall_fc _) ?_
  cases hA : (lo == 0 && hi == 65535) with
  | true =>
    have e : portOk lo hi k.ports n = true := by rw [portOk, hA]; rfl
    rw [e]
    simp (disch := first | omega | (simp only [List.length_append, List.length_cons, List.length_nil]; omega)) only [hA, go_sem, fill_c, ↓reduceIte, reduceCtorEq, Nat.reduceAdd, Nat.reduceSub, Nat.reducePow, Nat.reduceMul, Nat.reduceEqDiff, Nat.reduceLT, Nat.reduceLeDiff, Int.reduceToNat, Int.reduceLT, Int.reduceLE, Int.reduceEq, Int.reduceNeg, Int.reduceAdd, Int.reduceSub, Int.reduceMul]
    exact FinOk.drop (.inl rfl) (by simp [underL, underD]) ⟨rfl, rfl⟩
  | false =>
    have e : portOk lo hi k.ports n = (k.ports && spanHas lo hi n) := by rw [portOk, hA]; rfl
    rw [e]
    cases hp : k.ports with
    | true =>
      simp (disch := first | omega | (simp only [List.length_append, List.length_cons, List.length_nil]; omega)) only [hA, hb2, ky_d35, kok, kyT, hp, go_sem, fill_c, ↓reduceIte, reduceCtorEq, Nat.reduceAdd, Nat.reduceSub, Nat.reducePow, Nat.reduceMul, Nat.reduceEqDiff, Nat.reduceLT, Nat.reduceLeDiff, Int.reduceToNat, Int.reduceLT, Int.reduceLE, Int.reduceEq, Int.reduceNeg, Int.reduceAdd, Int.reduceSub, Int.reduceMul]
      refine gfc_same (shas_fc _ lo hi n) ?_
      simp (disch := first | omega | (simp only [List.length_append, List.length_cons, List.length_nil]; omega)) only [Bool.true_and, go_sem, fill_c, ↓reduceIte, reduceCtorEq, Nat.reduceAdd, Nat.reduceSub, Nat.reducePow, Nat.reduceMul, Nat.reduceEqDiff, Nat.reduceLT, Nat.reduceLeDiff, Int.reduceToNat, Int.reduceLT, Int.reduceLE, Int.reduceEq, Int.reduceNeg, Int.reduceAdd, Int.reduceSub, Int.reduceMul]
      exact FinOk.drop (.inl rfl) (by simp [underL, underD]) ⟨rfl, rfl⟩
    | false =>
      simp (disch := first | omega | (simp only [List.length_append, List.length_cons, List.length_nil]; omega)) only [hA, hb2, ky_d35, kok, kyT, hp, Bool.false_and, go_sem, fill_c, ↓reduceIte, reduceCtorEq, Nat.reduceAdd, Nat.reduceSub, Nat.reducePow, Nat.reduceMul, Nat.reduceEqDiff, Nat.reduceLT, Nat.reduceLeDiff, Int.reduceToNat, Int.reduceLT, Int.reduceLE, Int.reduceEq, Int.reduceNeg, Int.reduceAdd, Int.reduceSub, Int.reduceMul]
      exact FinOk.drop (.inl rfl) (by simp [underL, underD]) ⟨rfl, rfl⟩
theorem wwish_fc (h : Heap) (w n : Int) : FC Try.prog 51 [.int .i64 w, .int .i64 n] h fun d h' => d = .bool (wishOk w n) ∧ h' = h := by
  refine FC.goes cf51 ?_; simp only [c51]; simp only [List.length_cons, List.length_nil, Nat.reduceAdd, Nat.reduceSub, List.replicate_succ, List.replicate_zero, List.cons_append, List.nil_append]
  by_cases h0 : w = -1
  · have e : decide (w = -1) = true := decide_eq_true h0
    simp (disch := first | omega | (simp only [List.length_append, List.length_cons, List.length_nil]; omega)) only [c51r0, c51r1, e, Bool.true_or, wishOk, go_sem, fill_c, ↓reduceIte, reduceCtorEq, Nat.reduceAdd, Nat.reduceSub, Nat.reducePow, Nat.reduceMul, Nat.reduceEqDiff, Nat.reduceLT, Nat.reduceLeDiff, Int.reduceToNat, Int.reduceLT, Int.reduceLE, Int.reduceEq, Int.reduceNeg, Int.reduceAdd, Int.reduceSub, Int.reduceMul]
    exact FinOk.all ⟨rfl, rfl⟩
  · simp (disch := first | omega | (simp only [List.length_append, List.length_cons, List.length_nil]; omega)) only [c51r0, c51r1, h0, Bool.false_or, wishOk, go_sem, fill_c, ↓reduceIte, reduceCtorEq, Nat.reduceAdd, Nat.reduceSub, Nat.reducePow, Nat.reduceMul, Nat.reduceEqDiff, Nat.reduceLT, Nat.reduceLeDiff, Int.reduceToNat, Int.reduceLT, Int.reduceLE, Int.reduceEq, Int.reduceNeg, Int.reduceAdd, Int.reduceSub, Int.reduceMul]
    exact FinOk.all ⟨rfl, rfl⟩
/-- The first that is none. -/
def firstNot : List Bool → Int → Int
  | [], _ => -1
  | b :: l, n => if b then firstNot l (n + 1) else n
theorem six_idx_fc (h : Heap) (x : D) (b0 b1 b2 b3 b4 b5 : Bool) (hx : SlOf h 1 x [.bool b0, .bool b1, .bool b2, .bool b3, .bool b4, .bool b5] 6) :
    FC Try.prog 52 [x, .bool false] h fun d h' => d = .int .i64 (firstNot [b0, b1, b2, b3, b4, b5] 0) ∧ h' = h := by
  have hat : ∀ (k : Nat) (q : D), k < 6 → [D.bool b0, .bool b1, .bool b2, .bool b3, .bool b4, .bool b5][k]? = some q → ∃ p cs, elemAddr h 1 x (.int .i64 (k : Int)) = some p ∧ ptrCells h p = some cs ∧ cs[0]? = some q := by
    intro k q hk hq
    obtain ⟨p, cs, e1, e2, e3⟩ := hx.elem (k := .i64) (i := (k : Int)) (by omega) (by omega)
    have e4 := e3 0 (by omega)
    rw [show ((k : Int).toNat * 1 + 0) = k by omega, hq] at e4
    exact ⟨p, cs, e1, e2, e4⟩
  refine FC.goes cf52 ?_; simp only [c52]; simp only [List.length_cons, List.length_nil, Nat.reduceAdd, Nat.reduceSub, List.replicate_succ, List.replicate_zero, List.cons_append, List.nil_append]
  simp (disch := first | omega | (simp only [List.length_append, List.length_cons, List.length_nil]; omega)) only [c52r0, c52r1, c52r2, c52r3, c52r4, c52r5, c52r6, c52l7, c52r8, hx.lend, hx.sort, go_sem, fill_c, ↓reduceIte, reduceCtorEq, Nat.reduceAdd, Nat.reduceSub, Nat.reducePow, Nat.reduceMul, Nat.reduceEqDiff, Nat.reduceLT, Nat.reduceLeDiff, Int.reduceToNat, Int.reduceLT, Int.reduceLE, Int.reduceEq, Int.reduceNeg, Int.reduceAdd, Int.reduceSub, Int.reduceMul]
  refine loop_to 6 (fun k st => firstNot [b0, b1, b2, b3, b4, b5] 0 = firstNot ([b0, b1, b2, b3, b4, b5].drop k) (k : Int) ∧ ∃ (j : Nat → D), st = ⟨(x :: .bool false :: j 2 :: j 3 :: j 4 :: j 5 :: x :: .int .i64 6 :: .int .i64 (k : Int) :: j 9 :: j 10 :: j 11 :: j 12 :: j 13 :: j 14 :: j 15 :: j 16 :: j 17 :: j 18 :: []), h⟩) ⟨rfl, junk rfl⟩ ?_
  rintro k st hk ⟨hall, j, rfl⟩
  rw [hall]
  obtain rfl | hk : k = 6 ∨ k < 6 := by omega
  · simp (disch := first | omega | (simp only [List.length_append, List.length_cons, List.length_nil]; omega)) only [c52r0, c52r1, c52r2, c52r3, c52r4, c52r5, c52r6, c52l7, c52r8, go_sem, fill_c, ↓reduceIte, reduceCtorEq, Nat.reduceAdd, Nat.reduceSub, Nat.reducePow, Nat.reduceMul, Nat.reduceEqDiff, Nat.reduceLT, Nat.reduceLeDiff, Int.reduceToNat, Int.reduceLT, Int.reduceLE, Int.reduceEq, Int.reduceNeg, Int.reduceAdd, Int.reduceSub, Int.reduceMul]
    exact FinOk.all ⟨rfl, rfl⟩
  · have hk' : (k : Int) < 6 := by omega
    obtain ⟨b, hb, hd⟩ : ∃ b : Bool, [D.bool b0, .bool b1, .bool b2, .bool b3, .bool b4, .bool b5][k]? = some (.bool b) ∧ [b0, b1, b2, b3, b4, b5].drop k = b :: [b0, b1, b2, b3, b4, b5].drop (k + 1) := by
      obtain rfl | rfl | rfl | rfl | rfl | rfl : k = 0 ∨ k = 1 ∨ k = 2 ∨ k = 3 ∨ k = 4 ∨ k = 5 := by omega
      all_goals exact ⟨_, rfl, rfl⟩
    obtain ⟨p, cs, e1, e2, e3⟩ := hat k _ hk hb
    rw [hd] at hall ⊢
    have e5 : IntKind.i64.wrap ((k : Int) + 1) = ((k + 1 : Nat) : Int) := by rw [w_i64 (by omega) (by omega)]; omega
    have hft : (false == true) = false := rfl
    cases b with
    | true =>
      simp (disch := first | omega | (simp only [List.length_append, List.length_cons, List.length_nil]; omega)) only [hft, c52r0, c52r1, c52r2, c52r3, c52r4, c52r5, c52r6, c52l7, c52r8, hk', e1, e2, e3, e5, go_sem, fill_c, ↓reduceIte, reduceCtorEq, Nat.reduceAdd, Nat.reduceSub, Nat.reducePow, Nat.reduceMul, Nat.reduceEqDiff, Nat.reduceLT, Nat.reduceLeDiff, Int.reduceToNat, Int.reduceLT, Int.reduceLE, Int.reduceEq, Int.reduceNeg, Int.reduceAdd, Int.reduceSub, Int.reduceMul]
      exact ⟨hk, rfl, junk rfl⟩
    | false =>
      simp (disch := first | omega | (simp only [List.length_append, List.length_cons, List.length_nil]; omega)) only [c52r0, c52r1, c52r2, c52r3, c52r4, c52r5, c52r6, c52l7, c52r8, hk', e1, e2, e3, e5, go_sem, fill_c, ↓reduceIte, reduceCtorEq, Nat.reduceAdd, Nat.reduceSub, Nat.reducePow, Nat.reduceMul, Nat.reduceEqDiff, Nat.reduceLT, Nat.reduceLeDiff, Int.reduceToNat, Int.reduceLT, Int.reduceLE, Int.reduceEq, Int.reduceNeg, Int.reduceAdd, Int.reduceSub, Int.reduceMul]
      exact FinOk.all ⟨rfl, rfl⟩
/-- What a key has of what a rule asks. -/
def whyL (r : Ru) (k : Ky) : List Bool := [hasF r.sv r.sa r.sn k.v k.s, hasF r.dv r.da r.dn k.v k.d, portOk r.slo r.shi k.ports k.sp, portOk r.dlo r.dhi k.ports k.dp, wishOk r.proto k.proto, wishOk r.dscp k.dscp]
/-- The first thing that a rule asks, and a key has not. -/
def whyF (r : Ru) (k : Ky) : Int := if ruChk r = 0 then firstNot (whyL r k) 0 else -2
theorem why_fc (h : Heap) (r : Ru) (ok : r.Ok) (k : Ky) (kok : k.Ok) : FC Try.prog 14 [.agg (ru r), .agg (ky k)] h fun d h' => d = .int .i64 (whyF r k) ∧ h' = h := by
  have lr := ru_len ok
  have lk := ky_len kok
  have eh := phas_fc
  simp only [prefD_pc] at eh
  refine FC.goes cf14 ?_; simp only [c14]; simp only [List.length_cons, List.length_nil, Nat.reduceAdd, Nat.reduceSub, List.replicate_succ, List.replicate_zero, List.cons_append, List.nil_append]
  simp (disch := first | omega | (simp only [List.length_append, List.length_cons, List.length_nil]; omega)) only [c14r0, c14r1, c14r2, c14r3, c14r4, c14r5, c14r6, c14r7, lr, ru_one, ru_take, ok, lk, ky_one, kok, go_sem, ↓reduceIte, reduceCtorEq, Nat.reduceAdd, Nat.reduceSub, Nat.reducePow, Nat.reduceMul, Nat.reduceEqDiff, Nat.reduceLT, Nat.reduceLeDiff, Int.reduceToNat, Int.reduceLT, Int.reduceLE, Int.reduceEq, Int.reduceNeg, Int.reduceAdd, Int.reduceSub, Int.reduceMul]
  rw [ru_fill1 ok rfl]
  simp (disch := first | omega | (simp only [List.length_append, List.length_cons, List.length_nil]; omega)) only [go_sem, fill_c, ↓reduceIte, reduceCtorEq, Nat.reduceAdd, Nat.reduceSub, Nat.reducePow, Nat.reduceMul, Nat.reduceEqDiff, Nat.reduceLT, Nat.reduceLeDiff, Int.reduceToNat, Int.reduceLT, Int.reduceLE, Int.reduceEq, Int.reduceNeg, Int.reduceAdd, Int.reduceSub, Int.reduceMul]
  refine gfc_same (right_ok_fc _ _ [r] (by simp [ok]) (rus_one ok (by simp (disch := first | omega | (simp only [List.length_append, List.length_cons, List.length_nil]; omega)) only [go_sem, fill_c, ↓reduceIte, reduceCtorEq, Nat.reduceAdd, Nat.reduceSub, Nat.reducePow, Nat.reduceMul, Nat.reduceEqDiff, Nat.reduceLT, Nat.reduceLeDiff, Int.reduceToNat, Int.reduceLT, Int.reduceLE, Int.reduceEq, Int.reduceNeg, Int.reduceAdd, Int.reduceSub, Int.reduceMul])) (by simp)) ?_
  rw [allOk_one]
  by_cases hc : ruChk r = 0
  · have e0 : decide (ruChk r = 0) = true := decide_eq_true hc
    have e : whyF r k = firstNot (whyL r k) 0 := by rw [whyF, if_pos hc]
    rw [e]
    simp (disch := first | omega | (simp only [List.length_append, List.length_cons, List.length_nil]; omega)) only [e0, lr, ru_s, ru_d, ru_l18, ok, ky_s, ky_d, ky_l1, ky_l17, ky_0, kok, go_sem, ↓reduceIte, reduceCtorEq, Nat.reduceAdd, Nat.reduceSub, Nat.reducePow, Nat.reduceMul, Nat.reduceEqDiff, Nat.reduceLT, Nat.reduceLeDiff, Int.reduceToNat, Int.reduceLT, Int.reduceLE, Int.reduceEq, Int.reduceNeg, Int.reduceAdd, Int.reduceSub, Int.reduceMul]
    refine kfcL_of (fun L => eh _ r.sv r.sn k.v r.sa k.s ok.s kok.s) ?_
    simp (disch := first | omega | (simp only [List.length_append, List.length_cons, List.length_nil]; omega)) only [e0, lr, ru_s, ru_d, ru_l18, ok, ky_s, ky_d, ky_l1, ky_l17, ky_0, kok, go_sem, ↓reduceIte, reduceCtorEq, Nat.reduceAdd, Nat.reduceSub, Nat.reducePow, Nat.reduceMul, Nat.reduceEqDiff, Nat.reduceLT, Nat.reduceLeDiff, Int.reduceToNat, Int.reduceLT, Int.reduceLE, Int.reduceEq, Int.reduceNeg, Int.reduceAdd, Int.reduceSub, Int.reduceMul]
    refine kfcL_of (fun L => eh _ r.dv r.dn k.v r.da k.d ok.d kok.d) ?_
    simp (disch := first | omega | (simp only [List.length_append, List.length_cons, List.length_nil]; omega)) only [ru_d36, ru_d38, ruT, ok, ky_d36, ky_d37, kyT, kok, go_sem, ↓reduceIte, reduceCtorEq, Nat.reduceAdd, Nat.reduceSub, Nat.reducePow, Nat.reduceMul, Nat.reduceEqDiff, Nat.reduceLT, Nat.reduceLeDiff, Int.reduceToNat, Int.reduceLT, Int.reduceLE, Int.reduceEq, Int.reduceNeg, Int.reduceAdd, Int.reduceSub, Int.reduceMul]
    refine kfcL_of (fun L => wport_fc _ k kok _ (by simp (disch := first | omega | (simp only [List.length_append, List.length_cons, List.length_nil]; omega)) only [go_sem, fill_c, ↓reduceIte, reduceCtorEq, Nat.reduceAdd, Nat.reduceSub, Nat.reducePow, Nat.reduceMul, Nat.reduceEqDiff, Nat.reduceLT, Nat.reduceLeDiff, Int.reduceToNat, Int.reduceLT, Int.reduceLE, Int.reduceEq, Int.reduceNeg, Int.reduceAdd, Int.reduceSub, Int.reduceMul]) r.slo r.shi k.sp) ?_
    simp (disch := first | omega | (simp only [List.length_append, List.length_cons, List.length_nil]; omega)) only [ru_d36, ru_d38, ruT, ok, ky_d36, ky_d37, kyT, kok, go_sem, ↓reduceIte, reduceCtorEq, Nat.reduceAdd, Nat.reduceSub, Nat.reducePow, Nat.reduceMul, Nat.reduceEqDiff, Nat.reduceLT, Nat.reduceLeDiff, Int.reduceToNat, Int.reduceLT, Int.reduceLE, Int.reduceEq, Int.reduceNeg, Int.reduceAdd, Int.reduceSub, Int.reduceMul]
    refine kfcL_of (fun L => wport_fc _ k kok _ (by simp (disch := first | omega | (simp only [List.length_append, List.length_cons, List.length_nil]; omega)) only [go_sem, fill_c, ↓reduceIte, reduceCtorEq, Nat.reduceAdd, Nat.reduceSub, Nat.reducePow, Nat.reduceMul, Nat.reduceEqDiff, Nat.reduceLT, Nat.reduceLeDiff, Int.reduceToNat, Int.reduceLT, Int.reduceLE, Int.reduceEq, Int.reduceNeg, Int.reduceAdd, Int.reduceSub, Int.reduceMul]) r.dlo r.dhi k.dp) ?_
    simp (disch := first | omega | (simp only [List.length_append, List.length_cons, List.length_nil]; omega)) only [ru_d40, ru_d41, ruT, ok, ky_d33, ky_d34, kyT, kok, go_sem, ↓reduceIte, reduceCtorEq, Nat.reduceAdd, Nat.reduceSub, Nat.reducePow, Nat.reduceMul, Nat.reduceEqDiff, Nat.reduceLT, Nat.reduceLeDiff, Int.reduceToNat, Int.reduceLT, Int.reduceLE, Int.reduceEq, Int.reduceNeg, Int.reduceAdd, Int.reduceSub, Int.reduceMul]
    refine kfcL_of (fun L => wwish_fc _ r.proto k.proto) ?_
    simp (disch := first | omega | (simp only [List.length_append, List.length_cons, List.length_nil]; omega)) only [ru_d40, ru_d41, ruT, ok, ky_d33, ky_d34, kyT, kok, go_sem, ↓reduceIte, reduceCtorEq, Nat.reduceAdd, Nat.reduceSub, Nat.reducePow, Nat.reduceMul, Nat.reduceEqDiff, Nat.reduceLT, Nat.reduceLeDiff, Int.reduceToNat, Int.reduceLT, Int.reduceLE, Int.reduceEq, Int.reduceNeg, Int.reduceAdd, Int.reduceSub, Int.reduceMul]
    refine kfcL_of (fun L => wwish_fc _ r.dscp k.dscp) ?_
    simp (disch := first | omega | (simp only [List.length_append, List.length_cons, List.length_nil]; omega)) only [fill_c, splice0, go_sem, fill_c, ↓reduceIte, reduceCtorEq, Nat.reduceAdd, Nat.reduceSub, Nat.reducePow, Nat.reduceMul, Nat.reduceEqDiff, Nat.reduceLT, Nat.reduceLeDiff, Int.reduceToNat, Int.reduceLT, Int.reduceLE, Int.reduceEq, Int.reduceNeg, Int.reduceAdd, Int.reduceSub, Int.reduceMul]
    refine ⟨⟨rfl, rfl⟩, ?_⟩
    simp only [List.replicate_succ, List.replicate_zero, List.set_cons_zero, List.set_cons_succ]
    refine gfc_same (six_idx_fc _ _ _ _ _ _ _ _ (bsl_of (off := 0) (k := 6) (sz := 1) (cs := [.bool (hasF r.sv r.sa r.sn k.v k.s), .bool (hasF r.dv r.da r.dn k.v k.d), .bool (portOk r.slo r.shi k.ports k.sp), .bool (portOk r.dlo r.dhi k.ports k.dp), .bool (wishOk r.proto k.proto), .bool (wishOk r.dscp k.dscp)]) (by simp (disch := first | omega | (simp only [List.length_append, List.length_cons, List.length_nil]; omega)) only [go_sem, fill_c, ↓reduceIte, reduceCtorEq, Nat.reduceAdd, Nat.reduceSub, Nat.reducePow, Nat.reduceMul, Nat.reduceEqDiff, Nat.reduceLT, Nat.reduceLeDiff, Int.reduceToNat, Int.reduceLT, Int.reduceLE, Int.reduceEq, Int.reduceNeg, Int.reduceAdd, Int.reduceSub, Int.reduceMul]) (by simp))) ?_
    simp (disch := first | omega | (simp only [List.length_append, List.length_cons, List.length_nil]; omega)) only [go_sem, fill_c, ↓reduceIte, reduceCtorEq, Nat.reduceAdd, Nat.reduceSub, Nat.reducePow, Nat.reduceMul, Nat.reduceEqDiff, Nat.reduceLT, Nat.reduceLeDiff, Int.reduceToNat, Int.reduceLT, Int.reduceLE, Int.reduceEq, Int.reduceNeg, Int.reduceAdd, Int.reduceSub, Int.reduceMul]
    exact FinOk.drop (.inl rfl) (by simp [underL, underD]) ⟨rfl, rfl⟩
  · have e : whyF r k = -2 := by rw [whyF, if_neg hc]
    rw [e]
    simp (disch := first | omega | (simp only [List.length_append, List.length_cons, List.length_nil]; omega)) only [hc, go_sem, fill_c, ↓reduceIte, reduceCtorEq, Nat.reduceAdd, Nat.reduceSub, Nat.reducePow, Nat.reduceMul, Nat.reduceEqDiff, Nat.reduceLT, Nat.reduceLeDiff, Int.reduceToNat, Int.reduceLT, Int.reduceLE, Int.reduceEq, Int.reduceNeg, Int.reduceAdd, Int.reduceSub, Int.reduceMul]
    exact FinOk.drop (.inl rfl) (by simp [underL, underD]) ⟨rfl, rfl⟩
end Go.Proofs

/-
  Own work. The document's Check of rules.
-/
namespace Go.Proofs
open Go Go.Ytodlpcoffmnmbaa
set_option linter.unusedVariables false
set_option linter.unusedSimpArgs false
set_option maxRecDepth 10000

/-! ### weighbridge/weighbridgeref17.Check, params 1 -/
def c53r0 : List AStm := [.op (some 1) none (.box (.t 0)),
    .op (some 2) none (.mv (.c (.int .i64 0)))]
def c53r1 : List AStm := []
def c53r2 : List AStm := [.op (some 5) none (.faddr 0 (.t 1)),
    .op (some 6) none (.load (some 18) (.t 5)),
    .op (some 8) none (.faddr 18 (.t 1)),
    .op (some 9) none (.load (some 18) (.t 8)),
    .op (some 11) none (.faddr 36 (.t 1)),
    .op (some 12) none (.load (some 2) (.t 11)),
    .op (some 14) none (.faddr 38 (.t 1)),
    .op (some 15) none (.load (some 2) (.t 14)),
    .callG (some 7) none (.c (.fn (.func 23) [] [])) [(.t 6)],
    .callG (some 10) none (.c (.fn (.func 23) [] [])) [(.t 9)],
    .callG (some 13) none (.c (.fn (.func 78) [] [])) [(.t 12)],
    .call (some 16) none (.c (.fn (.func 78) [] [])) [(.t 15)],
    .op (some 17) none (.bslice 1 (List.replicate 8 (.int .i64 0)) 8 [(0, 1, (.t 7)), (1, 1, (.t 10)), (2, 1, (.c (.int .i64 0))), (3, 1, (.t 13)), (4, 1, (.t 16)), (5, 1, (.c (.int .i64 0))), (6, 1, (.c (.int .i64 0))), (7, 1, (.c (.int .i64 0)))]),
    .op (some 3) none (.mv (.t 17))]
def c53r3 : List AStm := [.op (some 18) none (.faddr 0 (.t 1)),
    .op (some 19) none (.faddr 0 (.t 18)),
    .op (some 20) none (.load none (.t 19)),
    .op (some 21) none (.faddr 18 (.t 1)),
    .op (some 22) none (.faddr 0 (.t 21)),
    .op (some 23) none (.load none (.t 22)),
    .op (some 24) none (.bin .neq (.t 20) (.t 23))]
def c53r4 : List AStm := [.op (some 25) none (.mv (.t 3)),
    .op (some 26) none (.ixs 1 (.t 25) (.c (.int .i64 2))),
    .op none none (.store 1 (.t 26) (.c (.int .i64 4)))]
def c53r5 : List AStm := [.op (some 27) none (.faddr 40 (.t 1)),
    .op (some 28) none (.load none (.t 27)),
    .op (some 29) none (.bin .lss (.t 28) (.c (.int .i64 (-1)))),
    .op (some 30) none (.mv (.t 29)),
    .op (some 31) (some (30, false)) (.faddr 40 (.t 1)),
    .op (some 32) (some (30, false)) (.load none (.t 31)),
    .op (some 33) (some (30, false)) (.bin .gtr (.t 32) (.c (.int .i64 255))),
    .op (some 34) none (.pick (.t 30) (.c (.bool true)) (.t 33))]
def c53r6 : List AStm := [.op (some 35) none (.mv (.t 3)),
    .op (some 36) none (.ixs 1 (.t 35) (.c (.int .i64 5))),
    .op none none (.store 1 (.t 36) (.c (.int .i64 1)))]
def c53r7 : List AStm := [.op (some 37) none (.faddr 41 (.t 1)),
    .op (some 38) none (.load none (.t 37)),
    .op (some 39) none (.bin .neq (.t 38) (.c (.int .i64 (-1)))),
    .op (some 40) none (.mv (.t 39)),
    .op (some 41) (some (40, true)) (.faddr 41 (.t 1)),
    .op (some 42) (some (40, true)) (.load none (.t 41)),
    .call (some 43) (some (40, true)) (.c (.fn (.func 79) [] [])) [(.t 42)],
    .op (some 44) (some (40, true)) (.un .not (.t 43)),
    .op (some 45) none (.pick (.t 40) (.t 44) (.c (.bool false)))]
def c53r8 : List AStm := [.op (some 46) none (.mv (.t 3)),
    .op (some 47) none (.ixs 1 (.t 46) (.c (.int .i64 6))),
    .op none none (.store 1 (.t 47) (.c (.int .i64 14)))]
def c53r9 : List AStm := [.op (some 48) none (.faddr 42 (.t 1)),
    .op (some 49) none (.load none (.t 48)),
    .op (some 50) none (.bin .lss (.t 49) (.c (.int .i64 0))),
    .op (some 51) none (.mv (.t 50)),
    .op (some 52) (some (51, false)) (.faddr 42 (.t 1)),
    .op (some 53) (some (51, false)) (.load none (.t 52)),
    .op (some 54) (some (51, false)) (.bin .geq (.t 53) (.c (.int .i64 16))),
    .op (some 55) none (.pick (.t 51) (.c (.bool true)) (.t 54))]
def c53r10 : List AStm := [.op (some 56) none (.mv (.t 3)),
    .op (some 57) none (.ixs 1 (.t 56) (.c (.int .i64 7))),
    .op none none (.store 1 (.t 57) (.c (.int .i64 11)))]
def c53r11 : List AStm := [.op (some 4) none (.mv (.c (.int .i64 0)))]
def c53r12 : List AStm := [.op (some 58) none (.mv (.t 4)),
    .op (some 59) none (.mv (.t 3)),
    .op (some 60) none (.len false (.t 59)),
    .op (some 61) none (.bin .lss (.t 58) (.t 60))]
def c53r13 : List AStm := [.op (some 64) none (.mv (.t 3)),
    .op (some 65) none (.mv (.t 4)),
    .op (some 66) none (.ixs 1 (.t 64) (.t 65)),
    .op (some 67) none (.load none (.t 66)),
    .op (some 68) none (.bin .neq (.t 67) (.c (.int .i64 0)))]
def c53r14 : List AStm := [.op (some 69) none (.mv (.t 3)),
    .op (some 70) none (.mv (.t 4)),
    .op (some 71) none (.ixs 1 (.t 69) (.t 70)),
    .op (some 72) none (.load none (.t 71)),
    .op (some 2) none (.mv (.t 72))]
def c53r15 : List AStm := [.op (some 62) none (.mv (.t 4)),
    .op (some 63) none (.bin .add (.t 62) (.c (.int .i64 1))),
    .op (some 4) none (.mv (.t 63))]
def c53l16 : AC := .seq (.seq (.reg c53r12) (.cond (.t 61) (.skip) (.exit 0))) (.seq (.block 1 (.seq (.reg c53r13) (.cond (.t 68) (.seq (.reg c53r14) (.ret)) (.skip)))) (.reg c53r15))
def c53r17 : List AStm := [.op (some 2) none (.mv (.c (.int .i64 0)))]
def c53 : CF := ⟨.seq (.reg c53r0) (.seq (.dreg c53r1 c53r2) (.seq (.seq (.reg c53r3) (.cond (.t 24) (.reg c53r4) (.skip))) (.seq (.seq (.reg c53r5) (.cond (.t 34) (.reg c53r6) (.skip))) (.seq (.seq (.reg c53r7) (.cond (.t 45) (.reg c53r8) (.skip))) (.seq (.seq (.reg c53r9) (.cond (.t 55) (.reg c53r10) (.skip))) (.seq (.seq (.reg c53r11) (.block 0 (.loop c53l16))) (.seq (.reg c53r17) (.ret)))))))), [.tmp 2], 73⟩
theorem cf53 : cfun Try.prog 53 = some c53 := by kernel_rfl

/-! ### weighbridge/weighbridgeref09.Is, params 1 -/
def c79r0 : List AStm := [.op (some 2) none (.mv (.c (.bool false)))]
def c79r1 : List AStm := [.op (some 3) none (.mv (.t 0)),
    .op (some 4) none (.bin .geq (.t 3) (.c (.int .i64 0))),
    .op (some 5) none (.mv (.t 4)),
    .op (some 6) (some (5, true)) (.mv (.t 0)),
    .op (some 7) (some (5, true)) (.bin .leq (.t 6) (.c (.int .i64 63))),
    .op (some 8) none (.pick (.t 5) (.t 7) (.c (.bool false))),
    .op (some 2) none (.mv (.t 8))]
def c79 : CF := ⟨.seq (.reg c79r0) (.seq (.reg c79r1) (.ret)), [.tmp 2], 9⟩
theorem cf79 : cfun Try.prog 79 = some c79 := by kernel_rfl



theorem ris_fc (h : Heap) (n : Int) : FC Try.prog 79 [.int .i64 n] h fun d h' => d = .bool (decide (0 ≤ n) && decide (n ≤ 63)) ∧ h' = h := by
  refine FC.goes cf79 ?_; simp only [c79]; simp only [List.length_cons, List.length_nil, Nat.reduceAdd, Nat.reduceSub, List.replicate_succ, List.replicate_zero, List.cons_append, List.nil_append]
  by_cases h0 : 0 ≤ n
  · simp (disch := first | omega | (simp only [List.length_append, List.length_cons, List.length_nil]; omega)) only [c79r0, c79r1, h0, go_sem, fill_c, ↓reduceIte, reduceCtorEq, Nat.reduceAdd, Nat.reduceSub, Nat.reducePow, Nat.reduceMul, Nat.reduceEqDiff, Nat.reduceLT, Nat.reduceLeDiff, Int.reduceToNat, Int.reduceLT, Int.reduceLE, Int.reduceEq, Int.reduceNeg, Int.reduceAdd, Int.reduceSub, Int.reduceMul]
    exact FinOk.all ⟨rfl, rfl⟩
  · simp (disch := first | omega | (simp only [List.length_append, List.length_cons, List.length_nil]; omega)) only [c79r0, c79r1, h0, Bool.false_and, go_sem, fill_c, ↓reduceIte, reduceCtorEq, Nat.reduceAdd, Nat.reduceSub, Nat.reducePow, Nat.reduceMul, Nat.reduceEqDiff, Nat.reduceLT, Nat.reduceLeDiff, Int.reduceToNat, Int.reduceLT, Int.reduceLE, Int.reduceEq, Int.reduceNeg, Int.reduceAdd, Int.reduceSub, Int.reduceMul]
    exact FinOk.all ⟨rfl, rfl⟩
/-- The first that is not nothing. -/
def firstNz : List Int → Int
  | [] => 0
  | x :: l => if x = 0 then firstNz l else x
def chkL (r : Ru) : List Int := [checkF r.sv r.sa r.sn, checkF r.dv r.da r.dn, if r.sv = r.dv then 0 else 4, spanChk r.slo r.shi, spanChk r.dlo r.dhi, if r.proto < -1 ∨ 255 < r.proto then 1 else 0, if r.dscp < -1 ∨ 63 < r.dscp then 14 else 0, if r.cls < 0 ∨ 16 ≤ r.cls then 11 else 0]
theorem chk_first (r : Ru) : ruChk r = firstNz (chkL r) := by
  unfold ruChk chkL
  simp only [firstNz]
  generalize checkF r.sv r.sa r.sn = x1
  generalize checkF r.dv r.da r.dn = x2
  generalize spanChk r.slo r.shi = x3
  generalize spanChk r.dlo r.dhi = x4
  by_cases h1 : x1 = 0
  · by_cases h2 : x2 = 0
    · by_cases h3 : r.sv = r.dv
      · by_cases h4 : x3 = 0
        · by_cases h5 : x4 = 0
          · by_cases h6 : r.proto < -1 ∨ 255 < r.proto
            · simp [h1, h2, h3, h4, h5, h6]
            · by_cases h7 : r.dscp < -1 ∨ 63 < r.dscp
              · simp [h1, h2, h3, h4, h5, h6, h7]
              · by_cases h8 : r.cls < 0 ∨ 16 ≤ r.cls
                · simp [h1, h2, h3, h4, h5, h6, h7, h8]
                · simp [h1, h2, h3, h4, h5, h6, h7, h8]
          · simp [h1, h2, h3, h4, h5]
        · simp [h1, h2, h3, h4]
      · simp [h1, h2, h3]
    · simp [h1, h2]
  · simp [h1]
theorem rcheck17_fc (h : Heap) (r : Ru) (ok : r.Ok) : FC Try.prog 53 [.agg (ru r)] h fun d h' => d = .int .i64 (ruChk r) ∧ h' = h := by
  have lr := ru_len ok
  have ec := rcheck_fc
  simp only [prefD_pc] at ec
  rw [chk_first, chkL]
  refine FC.goes cf53 ?_; simp only [c53]; simp only [List.length_cons, List.length_nil, Nat.reduceAdd, Nat.reduceSub, List.replicate_succ, List.replicate_zero, List.cons_append, List.nil_append]
  simp (disch := first | omega | (simp only [List.length_append, List.length_cons, List.length_nil]; omega)) only [c53r0, c53r1, c53r2, c53r3, c53r4, c53r5, c53r6, c53r7, c53r8, c53r9, c53r10, c53r11, c53r12, c53r13, c53r14, c53r15, c53l16, c53r17, lr, ru_one, ru_s, ru_d, ru_d36, ru_d38, ru_l18, ruT, ok, go_sem, fill_c, ↓reduceIte, reduceCtorEq, Nat.reduceAdd, Nat.reduceSub, Nat.reducePow, Nat.reduceMul, Nat.reduceEqDiff, Nat.reduceLT, Nat.reduceLeDiff, Int.reduceToNat, Int.reduceLT, Int.reduceLE, Int.reduceEq, Int.reduceNeg, Int.reduceAdd, Int.reduceSub, Int.reduceMul]
  refine xfc_same (ec _ r.sv r.sn r.sa ok.s) ?_
  simp (disch := first | omega | (simp only [List.length_append, List.length_cons, List.length_nil]; omega)) only [go_sem, fill_c, ↓reduceIte, reduceCtorEq, Nat.reduceAdd, Nat.reduceSub, Nat.reducePow, Nat.reduceMul, Nat.reduceEqDiff, Nat.reduceLT, Nat.reduceLeDiff, Int.reduceToNat, Int.reduceLT, Int.reduceLE, Int.reduceEq, Int.reduceNeg, Int.reduceAdd, Int.reduceSub, Int.reduceMul]
  refine xfc_same (ec _ r.dv r.dn r.da ok.d) ?_
  simp (disch := first | omega | (simp only [List.length_append, List.length_cons, List.length_nil]; omega)) only [go_sem, fill_c, ↓reduceIte, reduceCtorEq, Nat.reduceAdd, Nat.reduceSub, Nat.reducePow, Nat.reduceMul, Nat.reduceEqDiff, Nat.reduceLT, Nat.reduceLeDiff, Int.reduceToNat, Int.reduceLT, Int.reduceLE, Int.reduceEq, Int.reduceNeg, Int.reduceAdd, Int.reduceSub, Int.reduceMul]
  refine xfc_same (rscheck_fc _ _ _) ?_
  simp (disch := first | omega | (simp only [List.length_append, List.length_cons, List.length_nil]; omega)) only [go_sem, fill_c, ↓reduceIte, reduceCtorEq, Nat.reduceAdd, Nat.reduceSub, Nat.reducePow, Nat.reduceMul, Nat.reduceEqDiff, Nat.reduceLT, Nat.reduceLeDiff, Int.reduceToNat, Int.reduceLT, Int.reduceLE, Int.reduceEq, Int.reduceNeg, Int.reduceAdd, Int.reduceSub, Int.reduceMul]
  refine gfc_same (rscheck_fc _ _ _) ?_
  simp (disch := first | omega | (simp only [List.length_append, List.length_cons, List.length_nil]; omega)) only [ru_0, ru_18, ok, List.replicate_succ, List.replicate_zero, go_sem, fill_c, ↓reduceIte, reduceCtorEq, Nat.reduceAdd, Nat.reduceSub, Nat.reducePow, Nat.reduceMul, Nat.reduceEqDiff, Nat.reduceLT, Nat.reduceLeDiff, Int.reduceToNat, Int.reduceLT, Int.reduceLE, Int.reduceEq, Int.reduceNeg, Int.reduceAdd, Int.reduceSub, Int.reduceMul]
  generalize checkF r.sv r.sa r.sn = x1
  generalize checkF r.dv r.da r.dn = x2
  generalize spanChk r.slo r.shi = x3
  generalize spanChk r.dlo r.dhi = x4
  generalize hv : (if r.sv = r.dv then (0 : Int) else 4) = v
  generalize hp : (if r.proto < -1 ∨ 255 < r.proto then (1 : Int) else 0) = p
  generalize hd : (if r.dscp < -1 ∨ 63 < r.dscp then (14 : Int) else 0) = d
  generalize hc : (if r.cls < 0 ∨ 16 ≤ r.cls then (11 : Int) else 0) = c
  refine gc_cut (fun st => ∃ (j : Nat → D), st = ⟨(j 0 :: .ref h.length 0 :: j 2 :: .own (h.length + 1) 8 :: j 4 :: j 5 :: j 6 :: j 7 :: j 8 :: j 9 :: j 10 :: j 11 :: j 12 :: j 13 :: j 14 :: j 15 :: j 16 :: j 17 :: j 18 :: j 19 :: j 20 :: j 21 :: j 22 :: j 23 :: j 24 :: j 25 :: j 26 :: j 27 :: j 28 :: j 29 :: j 30 :: j 31 :: j 32 :: j 33 :: j 34 :: j 35 :: j 36 :: j 37 :: j 38 :: j 39 :: j 40 :: j 41 :: j 42 :: j 43 :: j 44 :: j 45 :: j 46 :: j 47 :: j 48 :: j 49 :: j 50 :: j 51 :: j 52 :: j 53 :: j 54 :: j 55 :: j 56 :: j 57 :: j 58 :: j 59 :: j 60 :: j 61 :: j 62 :: j 63 :: j 64 :: j 65 :: j 66 :: j 67 :: j 68 :: j 69 :: j 70 :: j 71 :: j 72 :: []), h ++ [.box (ru r), .grow 1 [.int .i64 x1, .int .i64 x2, .int .i64 v, .int .i64 x3, .int .i64 x4, .int .i64 0, .int .i64 0, .int .i64 0] 8]⟩) ?_ ?_
  · by_cases h1 : r.sv = r.dv
    · have e0 : decide (r.sv = r.dv) = true := decide_eq_true h1
      rw [if_pos h1] at hv
      subst hv
      simp (disch := first | omega | (simp only [List.length_append, List.length_cons, List.length_nil]; omega)) only [e0, go_sem, fill_c, ↓reduceIte, reduceCtorEq, Nat.reduceAdd, Nat.reduceSub, Nat.reducePow, Nat.reduceMul, Nat.reduceEqDiff, Nat.reduceLT, Nat.reduceLeDiff, Int.reduceToNat, Int.reduceLT, Int.reduceLE, Int.reduceEq, Int.reduceNeg, Int.reduceAdd, Int.reduceSub, Int.reduceMul]
      exact junk rfl
    · have e0 : decide (r.sv = r.dv) = false := decide_eq_false h1
      rw [if_neg h1] at hv
      subst hv
      rw [e0]
      simp (disch := first | omega | (simp only [List.length_append, List.length_cons, List.length_nil]; omega)) only [go_sem, fill_c, ↓reduceIte, reduceCtorEq, Nat.reduceAdd, Nat.reduceSub, Nat.reducePow, Nat.reduceMul, Nat.reduceEqDiff, Nat.reduceLT, Nat.reduceLeDiff, Int.reduceToNat, Int.reduceLT, Int.reduceLE, Int.reduceEq, Int.reduceNeg, Int.reduceAdd, Int.reduceSub, Int.reduceMul]
      exact junk rfl
  rintro st ⟨j, rfl⟩
  refine go_cut (fun st => ∃ (j : Nat → D), st = ⟨(j 0 :: .ref h.length 0 :: j 2 :: .own (h.length + 1) 8 :: j 4 :: j 5 :: j 6 :: j 7 :: j 8 :: j 9 :: j 10 :: j 11 :: j 12 :: j 13 :: j 14 :: j 15 :: j 16 :: j 17 :: j 18 :: j 19 :: j 20 :: j 21 :: j 22 :: j 23 :: j 24 :: j 25 :: j 26 :: j 27 :: j 28 :: j 29 :: j 30 :: j 31 :: j 32 :: j 33 :: j 34 :: j 35 :: j 36 :: j 37 :: j 38 :: j 39 :: j 40 :: j 41 :: j 42 :: j 43 :: j 44 :: j 45 :: j 46 :: j 47 :: j 48 :: j 49 :: j 50 :: j 51 :: j 52 :: j 53 :: j 54 :: j 55 :: j 56 :: j 57 :: j 58 :: j 59 :: j 60 :: j 61 :: j 62 :: j 63 :: j 64 :: j 65 :: j 66 :: j 67 :: j 68 :: j 69 :: j 70 :: j 71 :: j 72 :: []), h ++ [.box (ru r), .grow 1 [.int .i64 x1, .int .i64 x2, .int .i64 v, .int .i64 x3, .int .i64 x4, .int .i64 p, .int .i64 0, .int .i64 0] 8]⟩) ?_ ?_
  · by_cases h1 : r.proto < -1
    · rw [if_pos (.inl h1)] at hp
      subst hp
      simp (disch := first | omega | (simp only [List.length_append, List.length_cons, List.length_nil]; omega)) only [h1, ru_d40, ruT, ok, go_sem, fill_c, ↓reduceIte, reduceCtorEq, Nat.reduceAdd, Nat.reduceSub, Nat.reducePow, Nat.reduceMul, Nat.reduceEqDiff, Nat.reduceLT, Nat.reduceLeDiff, Int.reduceToNat, Int.reduceLT, Int.reduceLE, Int.reduceEq, Int.reduceNeg, Int.reduceAdd, Int.reduceSub, Int.reduceMul]
      exact junk rfl
    · by_cases h2 : 255 < r.proto
      · rw [if_pos (.inr h2)] at hp
        subst hp
        simp (disch := first | omega | (simp only [List.length_append, List.length_cons, List.length_nil]; omega)) only [h1, h2, ru_d40, ruT, ok, go_sem, fill_c, ↓reduceIte, reduceCtorEq, Nat.reduceAdd, Nat.reduceSub, Nat.reducePow, Nat.reduceMul, Nat.reduceEqDiff, Nat.reduceLT, Nat.reduceLeDiff, Int.reduceToNat, Int.reduceLT, Int.reduceLE, Int.reduceEq, Int.reduceNeg, Int.reduceAdd, Int.reduceSub, Int.reduceMul]
        exact junk rfl
      · rw [if_neg (by omega)] at hp
        subst hp
        simp (disch := first | omega | (simp only [List.length_append, List.length_cons, List.length_nil]; omega)) only [h1, h2, ru_d40, ruT, ok, go_sem, fill_c, ↓reduceIte, reduceCtorEq, Nat.reduceAdd, Nat.reduceSub, Nat.reducePow, Nat.reduceMul, Nat.reduceEqDiff, Nat.reduceLT, Nat.reduceLeDiff, Int.reduceToNat, Int.reduceLT, Int.reduceLE, Int.reduceEq, Int.reduceNeg, Int.reduceAdd, Int.reduceSub, Int.reduceMul]
        exact junk rfl
  rintro st ⟨j, rfl⟩
  refine go_cut (fun st => ∃ (j : Nat → D), st = ⟨(j 0 :: .ref h.length 0 :: j 2 :: .own (h.length + 1) 8 :: j 4 :: j 5 :: j 6 :: j 7 :: j 8 :: j 9 :: j 10 :: j 11 :: j 12 :: j 13 :: j 14 :: j 15 :: j 16 :: j 17 :: j 18 :: j 19 :: j 20 :: j 21 :: j 22 :: j 23 :: j 24 :: j 25 :: j 26 :: j 27 :: j 28 :: j 29 :: j 30 :: j 31 :: j 32 :: j 33 :: j 34 :: j 35 :: j 36 :: j 37 :: j 38 :: j 39 :: j 40 :: j 41 :: j 42 :: j 43 :: j 44 :: j 45 :: j 46 :: j 47 :: j 48 :: j 49 :: j 50 :: j 51 :: j 52 :: j 53 :: j 54 :: j 55 :: j 56 :: j 57 :: j 58 :: j 59 :: j 60 :: j 61 :: j 62 :: j 63 :: j 64 :: j 65 :: j 66 :: j 67 :: j 68 :: j 69 :: j 70 :: j 71 :: j 72 :: []), h ++ [.box (ru r), .grow 1 [.int .i64 x1, .int .i64 x2, .int .i64 v, .int .i64 x3, .int .i64 x4, .int .i64 p, .int .i64 d, .int .i64 0] 8]⟩) ?_ ?_
  · by_cases h1 : r.dscp = -1
    · have e0 : decide (r.dscp = -1) = true := decide_eq_true h1
      rw [if_neg (by omega)] at hd
      subst hd
      simp (disch := first | omega | (simp only [List.length_append, List.length_cons, List.length_nil]; omega)) only [e0, ru_d41, ruT, ok, Bool.false_and, go_sem, fill_c, ↓reduceIte, reduceCtorEq, Nat.reduceAdd, Nat.reduceSub, Nat.reducePow, Nat.reduceMul, Nat.reduceEqDiff, Nat.reduceLT, Nat.reduceLeDiff, Int.reduceToNat, Int.reduceLT, Int.reduceLE, Int.reduceEq, Int.reduceNeg, Int.reduceAdd, Int.reduceSub, Int.reduceMul]
      exact junk rfl
    · simp (disch := first | omega | (simp only [List.length_append, List.length_cons, List.length_nil]; omega)) only [h1, ru_d41, ruT, ok, go_sem, fill_c, ↓reduceIte, reduceCtorEq, Nat.reduceAdd, Nat.reduceSub, Nat.reducePow, Nat.reduceMul, Nat.reduceEqDiff, Nat.reduceLT, Nat.reduceLeDiff, Int.reduceToNat, Int.reduceLT, Int.reduceLE, Int.reduceEq, Int.reduceNeg, Int.reduceAdd, Int.reduceSub, Int.reduceMul]
      refine gfc_same (ris_fc _ r.dscp) ?_
      by_cases h2 : 0 ≤ r.dscp ∧ r.dscp ≤ 63
      · rw [if_neg (by omega)] at hd
        subst hd
        simp (disch := first | omega | (simp only [List.length_append, List.length_cons, List.length_nil]; omega)) only [h2.1, h2.2, go_sem, fill_c, ↓reduceIte, reduceCtorEq, Nat.reduceAdd, Nat.reduceSub, Nat.reducePow, Nat.reduceMul, Nat.reduceEqDiff, Nat.reduceLT, Nat.reduceLeDiff, Int.reduceToNat, Int.reduceLT, Int.reduceLE, Int.reduceEq, Int.reduceNeg, Int.reduceAdd, Int.reduceSub, Int.reduceMul]
        exact junk rfl
      · have e2 : (decide (0 ≤ r.dscp) && decide (r.dscp ≤ 63)) = false := by rw [← Bool.decide_and]; exact decide_eq_false h2
        rw [if_pos (by omega)] at hd
        subst hd
        rw [e2]
        simp (disch := first | omega | (simp only [List.length_append, List.length_cons, List.length_nil]; omega)) only [go_sem, fill_c, ↓reduceIte, reduceCtorEq, Nat.reduceAdd, Nat.reduceSub, Nat.reducePow, Nat.reduceMul, Nat.reduceEqDiff, Nat.reduceLT, Nat.reduceLeDiff, Int.reduceToNat, Int.reduceLT, Int.reduceLE, Int.reduceEq, Int.reduceNeg, Int.reduceAdd, Int.reduceSub, Int.reduceMul]
        exact junk rfl
  rintro st ⟨j, rfl⟩
  refine go_cut (fun st => ∃ (j : Nat → D), st = ⟨(j 0 :: .ref h.length 0 :: j 2 :: .own (h.length + 1) 8 :: j 4 :: j 5 :: j 6 :: j 7 :: j 8 :: j 9 :: j 10 :: j 11 :: j 12 :: j 13 :: j 14 :: j 15 :: j 16 :: j 17 :: j 18 :: j 19 :: j 20 :: j 21 :: j 22 :: j 23 :: j 24 :: j 25 :: j 26 :: j 27 :: j 28 :: j 29 :: j 30 :: j 31 :: j 32 :: j 33 :: j 34 :: j 35 :: j 36 :: j 37 :: j 38 :: j 39 :: j 40 :: j 41 :: j 42 :: j 43 :: j 44 :: j 45 :: j 46 :: j 47 :: j 48 :: j 49 :: j 50 :: j 51 :: j 52 :: j 53 :: j 54 :: j 55 :: j 56 :: j 57 :: j 58 :: j 59 :: j 60 :: j 61 :: j 62 :: j 63 :: j 64 :: j 65 :: j 66 :: j 67 :: j 68 :: j 69 :: j 70 :: j 71 :: j 72 :: []), h ++ [.box (ru r), .grow 1 [.int .i64 x1, .int .i64 x2, .int .i64 v, .int .i64 x3, .int .i64 x4, .int .i64 p, .int .i64 d, .int .i64 c] 8]⟩) ?_ ?_
  · by_cases h1 : r.cls < 0
    · rw [if_pos (.inl h1)] at hc
      subst hc
      simp (disch := first | omega | (simp only [List.length_append, List.length_cons, List.length_nil]; omega)) only [h1, ru_d42, ruT, ok, go_sem, fill_c, ↓reduceIte, reduceCtorEq, Nat.reduceAdd, Nat.reduceSub, Nat.reducePow, Nat.reduceMul, Nat.reduceEqDiff, Nat.reduceLT, Nat.reduceLeDiff, Int.reduceToNat, Int.reduceLT, Int.reduceLE, Int.reduceEq, Int.reduceNeg, Int.reduceAdd, Int.reduceSub, Int.reduceMul]
      exact junk rfl
    · by_cases h2 : 16 ≤ r.cls
      · rw [if_pos (.inr h2)] at hc
        subst hc
        simp (disch := first | omega | (simp only [List.length_append, List.length_cons, List.length_nil]; omega)) only [h1, h2, ru_d42, ruT, ok, go_sem, fill_c, ↓reduceIte, reduceCtorEq, Nat.reduceAdd, Nat.reduceSub, Nat.reducePow, Nat.reduceMul, Nat.reduceEqDiff, Nat.reduceLT, Nat.reduceLeDiff, Int.reduceToNat, Int.reduceLT, Int.reduceLE, Int.reduceEq, Int.reduceNeg, Int.reduceAdd, Int.reduceSub, Int.reduceMul]
        exact junk rfl
      · rw [if_neg (by omega)] at hc
        subst hc
        simp (disch := first | omega | (simp only [List.length_append, List.length_cons, List.length_nil]; omega)) only [h1, h2, ru_d42, ruT, ok, go_sem, fill_c, ↓reduceIte, reduceCtorEq, Nat.reduceAdd, Nat.reduceSub, Nat.reducePow, Nat.reduceMul, Nat.reduceEqDiff, Nat.reduceLT, Nat.reduceLeDiff, Int.reduceToNat, Int.reduceLT, Int.reduceLE, Int.reduceEq, Int.reduceNeg, Int.reduceAdd, Int.reduceSub, Int.reduceMul]
        exact junk rfl
  rintro st ⟨j, rfl⟩
  simp (disch := first | omega | (simp only [List.length_append, List.length_cons, List.length_nil]; omega)) only [c53r0, c53r1, c53r2, c53r3, c53r4, c53r5, c53r6, c53r7, c53r8, c53r9, c53r10, c53r11, c53r12, c53r13, c53r14, c53r15, c53l16, c53r17, go_sem, fill_c, ↓reduceIte, reduceCtorEq, Nat.reduceAdd, Nat.reduceSub, Nat.reducePow, Nat.reduceMul, Nat.reduceEqDiff, Nat.reduceLT, Nat.reduceLeDiff, Int.reduceToNat, Int.reduceLT, Int.reduceLE, Int.reduceEq, Int.reduceNeg, Int.reduceAdd, Int.reduceSub, Int.reduceMul]
  generalize hH : h ++ [Blk.box (ru r), .grow 1 [.int .i64 x1, .int .i64 x2, .int .i64 v, .int .i64 x3, .int .i64 x4, .int .i64 p, .int .i64 d, .int .i64 c] 8] = H
  have hx : SlOf H 1 (.own (h.length + 1) 8) [.int .i64 x1, .int .i64 x2, .int .i64 v, .int .i64 x3, .int .i64 x4, .int .i64 p, .int .i64 d, .int .i64 c] 8 := by
    rw [← hH]; exact own_of (by simp (disch := first | omega | (simp only [List.length_append, List.length_cons, List.length_nil]; omega)) only [go_sem, fill_c, ↓reduceIte, reduceCtorEq, Nat.reduceAdd, Nat.reduceSub, Nat.reducePow, Nat.reduceMul, Nat.reduceEqDiff, Nat.reduceLT, Nat.reduceLeDiff, Int.reduceToNat, Int.reduceLT, Int.reduceLE, Int.reduceEq, Int.reduceNeg, Int.reduceAdd, Int.reduceSub, Int.reduceMul]) rfl
  refine loop_to 8 (fun k st => firstNz [x1, x2, v, x3, x4, p, d, c] = firstNz ([x1, x2, v, x3, x4, p, d, c].drop k) ∧ ∃ (j : Nat → D), st = ⟨(j 0 :: j 1 :: j 2 :: .own (h.length + 1) 8 :: .int .i64 (k : Int) :: j 5 :: j 6 :: j 7 :: j 8 :: j 9 :: j 10 :: j 11 :: j 12 :: j 13 :: j 14 :: j 15 :: j 16 :: j 17 :: j 18 :: j 19 :: j 20 :: j 21 :: j 22 :: j 23 :: j 24 :: j 25 :: j 26 :: j 27 :: j 28 :: j 29 :: j 30 :: j 31 :: j 32 :: j 33 :: j 34 :: j 35 :: j 36 :: j 37 :: j 38 :: j 39 :: j 40 :: j 41 :: j 42 :: j 43 :: j 44 :: j 45 :: j 46 :: j 47 :: j 48 :: j 49 :: j 50 :: j 51 :: j 52 :: j 53 :: j 54 :: j 55 :: j 56 :: j 57 :: j 58 :: j 59 :: j 60 :: j 61 :: j 62 :: j 63 :: j 64 :: j 65 :: j 66 :: j 67 :: j 68 :: j 69 :: j 70 :: j 71 :: j 72 :: []), H⟩) ⟨rfl, junk rfl⟩ ?_
  rintro k st hk ⟨hall, j, rfl⟩
  rw [hall]
  obtain rfl | hk : k = 8 ∨ k < 8 := by omega
  · simp (disch := first | omega | (simp only [List.length_append, List.length_cons, List.length_nil]; omega)) only [hx.lend, hx.sort, go_sem, fill_c, ↓reduceIte, reduceCtorEq, Nat.reduceAdd, Nat.reduceSub, Nat.reducePow, Nat.reduceMul, Nat.reduceEqDiff, Nat.reduceLT, Nat.reduceLeDiff, Int.reduceToNat, Int.reduceLT, Int.reduceLE, Int.reduceEq, Int.reduceNeg, Int.reduceAdd, Int.reduceSub, Int.reduceMul]
    rw [← hH]
    exact FinOk.drop (.inl rfl) (by simp [underL, underD]) ⟨rfl, rfl⟩
  · have hk' : (k : Int) < 8 := by omega
    obtain ⟨b, hb, hd⟩ : ∃ b : Int, [D.int .i64 x1, .int .i64 x2, .int .i64 v, .int .i64 x3, .int .i64 x4, .int .i64 p, .int .i64 d, .int .i64 c][k]? = some (.int .i64 b) ∧ [x1, x2, v, x3, x4, p, d, c].drop k = b :: [x1, x2, v, x3, x4, p, d, c].drop (k + 1) := by
      obtain rfl | rfl | rfl | rfl | rfl | rfl | rfl | rfl : k = 0 ∨ k = 1 ∨ k = 2 ∨ k = 3 ∨ k = 4 ∨ k = 5 ∨ k = 6 ∨ k = 7 := by omega
      all_goals exact ⟨_, rfl, rfl⟩
    obtain ⟨q, cs, e1, e2, e3⟩ := hx.elem (k := .i64) (i := (k : Int)) (by omega) (by omega)
    have e4 := e3 0 (by omega)
    rw [show ((k : Int).toNat * 1 + 0) = k by omega, hb] at e4
    have e5 : IntKind.i64.wrap ((k : Int) + 1) = ((k + 1 : Nat) : Int) := by rw [w_i64 (by omega) (by omega)]; omega
    rw [hd] at hall ⊢
    by_cases h0 : b = 0
    · have e0 : decide (b = 0) = true := decide_eq_true h0
      simp (disch := first | omega | (simp only [List.length_append, List.length_cons, List.length_nil]; omega)) only [c53r0, c53r1, c53r2, c53r3, c53r4, c53r5, c53r6, c53r7, c53r8, c53r9, c53r10, c53r11, c53r12, c53r13, c53r14, c53r15, c53l16, c53r17, hx.lend, hx.sort, hk', e1, e2, e4, e5, e0, go_sem, fill_c, ↓reduceIte, reduceCtorEq, Nat.reduceAdd, Nat.reduceSub, Nat.reducePow, Nat.reduceMul, Nat.reduceEqDiff, Nat.reduceLT, Nat.reduceLeDiff, Int.reduceToNat, Int.reduceLT, Int.reduceLE, Int.reduceEq, Int.reduceNeg, Int.reduceAdd, Int.reduceSub, Int.reduceMul]
      refine ⟨hk, ?_, junk rfl⟩
      rw [firstNz, if_pos h0]
    · have e6 : firstNz (b :: [x1, x2, v, x3, x4, p, d, c].drop (k + 1)) = b := by rw [firstNz, if_neg h0]
      rw [e6]
      simp (disch := first | omega | (simp only [List.length_append, List.length_cons, List.length_nil]; omega)) only [c53r0, c53r1, c53r2, c53r3, c53r4, c53r5, c53r6, c53r7, c53r8, c53r9, c53r10, c53r11, c53r12, c53r13, c53r14, c53r15, c53l16, c53r17, hx.lend, hx.sort, hk', e1, e2, e4, e5, h0, go_sem, fill_c, ↓reduceIte, reduceCtorEq, Nat.reduceAdd, Nat.reduceSub, Nat.reducePow, Nat.reduceMul, Nat.reduceEqDiff, Nat.reduceLT, Nat.reduceLeDiff, Int.reduceToNat, Int.reduceLT, Int.reduceLE, Int.reduceEq, Int.reduceNeg, Int.reduceAdd, Int.reduceSub, Int.reduceMul]
      rw [← hH]
      exact FinOk.drop (.inl rfl) (by simp [underL, underD]) ⟨rfl, rfl⟩
end Go.Proofs

/-
  Own work. The document's rows of one rule.
-/
namespace Go.Proofs
open Go Go.Ytodlpcoffmnmbaa
set_option linter.unusedVariables false
set_option linter.unusedSimpArgs false
set_option maxRecDepth 10000

/-! ### weighbridge/weighbridgeref22.Rows, params 2 -/
def c54r0 : List AStm := [.op (some 3) none (.box (.t 1)),
    .op (some 4) none (.alloc (List.replicate 6 .nils))]
def c54r1 : List AStm := [.op (some 5) none (.alloc (List.replicate 6 .nils))]
def c54r2 : List AStm := [.op (some 13) none (.build [(.int .i64 0), (.int .i64 0)] [(0, 1, (.c (.int .i64 0))), (1, 1, (.c (.int .i64 65535)))]),
    .op (some 6) none (.alloc [(.int .i64 0), (.int .i64 0)]),
    .op none none (.store 2 (.t 6) (.t 13))]
def c54r3 : List AStm := [.op (some 7) none (.alloc (List.replicate 6 .nils))]
def c54r4 : List AStm := [.op (some 8) none (.mv (.c (.int .i64 0)))]
def c54r5 : List AStm := [.op (some 14) none (.mv (.t 8)),
    .op (some 15) none (.mv (.t 0)),
    .op (some 16) none (.len false (.t 15)),
    .op (some 17) none (.bin .lss (.t 14) (.t 16))]
def c54r6 : List AStm := [.op (some 20) none (.mv (.t 0)),
    .op (some 21) none (.mv (.t 8)),
    .op (some 22) none (.ixs 43 (.t 20) (.t 21)),
    .op (some 23) none (.load (some 43) (.t 22)),
    .op (some 9) none (.alloc [(.int .i64 0), (.int .u8 0), (.int .u8 0), (.int .u8 0), (.int .u8 0), (.int .u8 0), (.int .u8 0), (.int .u8 0), (.int .u8 0), (.int .u8 0), (.int .u8 0), (.int .u8 0), (.int .u8 0), (.int .u8 0), (.int .u8 0), (.int .u8 0), (.int .u8 0), (.int .i64 0), (.int .i64 0), (.int .u8 0), (.int .u8 0), (.int .u8 0), (.int .u8 0), (.int .u8 0), (.int .u8 0), (.int .u8 0), (.int .u8 0), (.int .u8 0), (.int .u8 0), (.int .u8 0), (.int .u8 0), (.int .u8 0), (.int .u8 0), (.int .u8 0), (.int .u8 0), (.int .i64 0), (.int .i64 0), (.int .i64 0), (.int .i64 0), (.int .i64 0), (.int .i64 0), (.int .i64 0), (.int .i64 0)]),
    .op none none (.store 43 (.t 9) (.t 23))]
def c54r7 : List AStm := [.op (some 24) none (.faddr 0 (.t 9)),
    .op (some 25) none (.load (some 18) (.t 24)),
    .op (some 26) none (.faddr 0 (.t 3)),
    .op (some 27) none (.load none (.t 26)),
    .op (some 28) none (.faddr 1 (.t 3)),
    .op (some 29) none (.load (some 16) (.t 28)),
    .callL (some 30) none (.c (.fn (.func 28) [] [])) [(.t 25), (.t 27), (.t 29)],
    .op (some 31) none (.faddr 18 (.t 9)),
    .op (some 32) none (.load (some 18) (.t 31)),
    .op (some 33) none (.faddr 0 (.t 3)),
    .op (some 34) none (.load none (.t 33)),
    .op (some 35) none (.faddr 17 (.t 3)),
    .op (some 36) none (.load (some 16) (.t 35)),
    .callL (some 37) none (.c (.fn (.func 28) [] [])) [(.t 32), (.t 34), (.t 36)],
    .op (some 38) none (.faddr 36 (.t 9)),
    .op (some 39) none (.load (some 2) (.t 38)),
    .op (some 40) none (.load (some 2) (.t 6)),
    .op (some 41) none (.eqa false [.ki, .ki] (.t 39) (.t 40)),
    .op (some 42) none (.mv (.t 41)),
    .op (some 43) (some (42, false)) (.faddr 35 (.t 3)),
    .op (some 44) (some (42, false)) (.load none (.t 43)),
    .op (some 45) (some (42, false)) (.mv (.t 44)),
    .op (some 46) (some (45, true)) (.faddr 36 (.t 9)),
    .op (some 47) (some (45, true)) (.load (some 2) (.t 46)),
    .op (some 48) (some (45, true)) (.faddr 36 (.t 3)),
    .op (some 49) (some (45, true)) (.load none (.t 48)),
    .callL (some 50) (some (45, true)) (.c (.fn (.func 80) [] [])) [(.t 47), (.t 49)],
    .op (some 51) (some (42, false)) (.pick (.t 45) (.t 50) (.c (.bool false))),
    .op (some 52) none (.pick (.t 42) (.c (.bool true)) (.t 51)),
    .op (some 53) none (.faddr 38 (.t 9)),
    .op (some 54) none (.load (some 2) (.t 53)),
    .op (some 55) none (.load (some 2) (.t 6)),
    .op (some 56) none (.eqa false [.ki, .ki] (.t 54) (.t 55)),
    .op (some 57) none (.mv (.t 56)),
    .op (some 58) (some (57, false)) (.faddr 35 (.t 3)),
    .op (some 59) (some (57, false)) (.load none (.t 58)),
    .op (some 60) (some (57, false)) (.mv (.t 59)),
    .op (some 61) (some (60, true)) (.faddr 38 (.t 9)),
    .op (some 62) (some (60, true)) (.load (some 2) (.t 61)),
    .op (some 63) (some (60, true)) (.faddr 37 (.t 3)),
    .op (some 64) (some (60, true)) (.load none (.t 63)),
    .callL (some 65) (some (60, true)) (.c (.fn (.func 80) [] [])) [(.t 62), (.t 64)],
    .op (some 66) (some (57, false)) (.pick (.t 60) (.t 65) (.c (.bool false))),
    .op (some 67) none (.pick (.t 57) (.c (.bool true)) (.t 66)),
    .op (some 68) none (.faddr 40 (.t 9)),
    .op (some 69) none (.load none (.t 68)),
    .op (some 70) none (.bin .eql (.t 69) (.c (.int .i64 (-1)))),
    .op (some 71) none (.mv (.t 70)),
    .op (some 72) (some (71, false)) (.faddr 40 (.t 9)),
    .op (some 73) (some (71, false)) (.load none (.t 72)),
    .op (some 74) (some (71, false)) (.faddr 33 (.t 3)),
    .op (some 75) (some (71, false)) (.load none (.t 74)),
    .op (some 76) (some (71, false)) (.bin .eql (.t 73) (.t 75)),
    .op (some 77) none (.pick (.t 71) (.c (.bool true)) (.t 76)),
    .op (some 78) none (.faddr 41 (.t 9)),
    .op (some 79) none (.load none (.t 78)),
    .op (some 80) none (.bin .eql (.t 79) (.c (.int .i64 (-1)))),
    .op (some 81) none (.mv (.t 80)),
    .op (some 82) (some (81, false)) (.faddr 41 (.t 9)),
    .op (some 83) (some (81, false)) (.load none (.t 82)),
    .op (some 84) (some (81, false)) (.faddr 34 (.t 3)),
    .op (some 85) (some (81, false)) (.load none (.t 84)),
    .op (some 86) (some (81, false)) (.bin .eql (.t 83) (.t 85)),
    .op (some 87) none (.pick (.t 81) (.c (.bool true)) (.t 86)),
    .op (some 88) none (.build (List.replicate 6 (.bool false)) [(0, 1, (.t 30)), (1, 1, (.t 37)), (2, 1, (.t 52)), (3, 1, (.t 67)), (4, 1, (.t 77)), (5, 1, (.t 87))]),
    .op (some 10) none (.alloc (List.replicate 6 (.bool false))),
    .op none none (.store 6 (.t 10) (.t 88))]
def c54r8 : List AStm := []
def c54r9 : List AStm := [.op (some 11) none (.mv (.c (.int .i64 0)))]
def c54r10 : List AStm := [.op (some 89) none (.mv (.t 11)),
    .op (some 90) none (.bin .lss (.t 89) (.c (.int .i64 6)))]
def c54r11 : List AStm := [.op (some 93) none (.mv (.t 11)),
    .op (some 94) none (.ixa 6 1 (.t 10) (.t 93)),
    .op (some 95) none (.load none (.t 94))]
def c54r12 : List AStm := [.op (some 96) none (.mv (.t 11)),
    .op (some 97) none (.mv (.t 11)),
    .op (some 98) none (.ixa 6 1 (.t 7) (.t 97)),
    .op (some 99) none (.load none (.t 98)),
    .op (some 100) none (.mv (.t 8)),
    .op (some 101) none (.bslice 1 [(.int .i64 0)] 1 [(0, 1, (.t 100))]),
    .op (some 102) none (.append false 1 8 (.t 99) (.t 101)),
    .op (some 103) none (.ixa 6 1 (.t 7) (.t 96)),
    .op none none (.store 1 (.t 103) (.t 102))]
def c54r13 : List AStm := [.op (some 91) none (.mv (.t 11)),
    .op (some 92) none (.bin .add (.t 91) (.c (.int .i64 1))),
    .op (some 11) none (.mv (.t 92))]
def c54l14 : AC := .seq (.seq (.reg c54r10) (.cond (.t 90) (.skip) (.exit 2))) (.seq (.block 3 (.seq (.reg c54r11) (.cond (.t 95) (.reg c54r12) (.skip)))) (.reg c54r13))
def c54r15 : List AStm := [.op (some 18) none (.mv (.t 8)),
    .op (some 19) none (.bin .add (.t 18) (.c (.int .i64 1))),
    .op (some 8) none (.mv (.t 19))]
def c54l16 : AC := .seq (.seq (.reg c54r5) (.cond (.t 17) (.skip) (.exit 0))) (.seq (.block 1 (.seq (.reg c54r6) (.seq (.dreg c54r7 c54r8) (.seq (.reg c54r9) (.block 2 (.loop c54l14)))))) (.reg c54r15))
def c54r17 : List AStm := [.op (some 12) none (.mv (.c (.int .i64 0)))]
def c54r18 : List AStm := [.op (some 104) none (.mv (.t 12)),
    .op (some 105) none (.bin .lss (.t 104) (.c (.int .i64 6)))]
def c54r19 : List AStm := [.op (some 108) none (.mv (.t 12)),
    .op (some 109) none (.mv (.t 0)),
    .op (some 110) none (.len false (.t 109)),
    .op (some 111) none (.mv (.t 12)),
    .op (some 112) none (.ixa 6 1 (.t 7) (.t 111)),
    .op (some 113) none (.load none (.t 112)),
    .call (some 114) none (.c (.fn (.func 81) [] [])) [(.t 110), (.t 113)],
    .op (some 115) none (.ixa 6 1 (.t 5) (.t 108)),
    .op none none (.store 1 (.t 115) (.t 114))]
def c54r20 : List AStm := [.op (some 106) none (.mv (.t 12)),
    .op (some 107) none (.bin .add (.t 106) (.c (.int .i64 1))),
    .op (some 12) none (.mv (.t 107))]
def c54l21 : AC := .seq (.seq (.reg c54r18) (.cond (.t 105) (.skip) (.exit 4))) (.seq (.block 5 (.reg c54r19)) (.reg c54r20))
def c54r22 : List AStm := [.op (some 116) none (.load (some 6) (.t 5)),
    .op none none (.store 6 (.t 4) (.t 116))]
def c54 : CF := ⟨.seq (.reg c54r0) (.seq (.reg c54r1) (.seq (.reg c54r2) (.seq (.reg c54r3) (.seq (.seq (.reg c54r4) (.block 0 (.loop c54l16))) (.seq (.seq (.reg c54r17) (.block 4 (.loop c54l21))) (.seq (.reg c54r22) (.ret))))))), [.cell 4 (some 6)], 117⟩
theorem cf54 : cfun Try.prog 54 = some c54 := by kernel_rfl



theorem of1_fc (h : Heap) (b : Bool) (lD : D) (s : SlOf h 1 lD (if b then [.int .i64 0] else []) (if b then 1 else 0)) :
    FC Try.prog 81 [.int .i64 1, lD] h fun d h' => ∃ r, d = .own r 1 ∧ h.length ≤ r ∧ h'[r]? = some (.grow 1 [.int .u64 (if b then 1 else 0)] 1) ∧ Ext h h' := by
  refine FC.goes cf81 ?_; simp only [c81]; simp only [List.length_cons, List.length_nil, Nat.reduceAdd, Nat.reduceSub, List.replicate_succ, List.replicate_zero, List.cons_append, List.nil_append]
  simp (disch := first | omega | (simp only [List.length_append, List.length_cons, List.length_nil]; omega)) only [c81r0, c81r1, c81r2, c81r3, c81r4, c81r5, c81l6, c81r7, go_sem, fill_c, ↓reduceIte, reduceCtorEq, Nat.reduceAdd, Nat.reduceSub, Nat.reducePow, Nat.reduceMul, Nat.reduceEqDiff, Nat.reduceLT, Nat.reduceLeDiff, Int.reduceToNat, Int.reduceLT, Int.reduceLE, Int.reduceEq, Int.reduceNeg, Int.reduceAdd, Int.reduceSub, Int.reduceMul]
  refine gfc_of (newRef_fc _ 1 (by omega) (by omega)) ?_
  rintro x1 h1 (⟨_, hc, _⟩ | ⟨rfl, rfl⟩)
  · exact absurd hc (by simp [newR, u64s])
  have e1 : (newR 1).length = 1 := rfl
  have e2 : u64s (newR 1) = [.int .u64 0] := rfl
  rw [e1, e2]
  have s1 := s.low [.grow 1 [.int .u64 0] 1]
  cases b with
  | false =>
    simp only [if_false, Bool.false_eq_true] at s1 s ⊢
    simp (disch := first | omega | (simp only [List.length_append, List.length_cons, List.length_nil]; omega)) only [go_sem, fill_c, ↓reduceIte, reduceCtorEq, Nat.reduceAdd, Nat.reduceSub, Nat.reducePow, Nat.reduceMul, Nat.reduceEqDiff, Nat.reduceLT, Nat.reduceLeDiff, Int.reduceToNat, Int.reduceLT, Int.reduceLE, Int.reduceEq, Int.reduceNeg, Int.reduceAdd, Int.reduceSub, Int.reduceMul]
    refine loop_to 0 (fun k st => ∃ (j : Nat → D), st = ⟨(j 0 :: lD :: j 2 :: j 3 :: j 4 :: .own h.length 1 :: .int .i64 0 :: j 7 :: j 8 :: j 9 :: j 10 :: j 11 :: j 12 :: j 13 :: j 14 :: j 15 :: j 16 :: j 17 :: j 18 :: j 19 :: j 20 :: j 21 :: []), h ++ [.grow 1 [.int .u64 0] 1]⟩) (junk rfl) ?_
    rintro k st hk ⟨j, rfl⟩
    simp (disch := first | omega | (simp only [List.length_append, List.length_cons, List.length_nil]; omega)) only [c81r0, c81r1, c81r2, c81r3, c81r4, c81r5, c81l6, c81r7, s1.lend, s1.sort, go_sem, fill_c, ↓reduceIte, reduceCtorEq, Nat.reduceAdd, Nat.reduceSub, Nat.reducePow, Nat.reduceMul, Nat.reduceEqDiff, Nat.reduceLT, Nat.reduceLeDiff, Int.reduceToNat, Int.reduceLT, Int.reduceLE, Int.reduceEq, Int.reduceNeg, Int.reduceAdd, Int.reduceSub, Int.reduceMul]
    exact FinOk.all ⟨_, rfl, Nat.le_refl _, by simp (disch := first | omega | (simp only [List.length_append, List.length_cons, List.length_nil]; omega)) only [go_sem, fill_c, ↓reduceIte, reduceCtorEq, Nat.reduceAdd, Nat.reduceSub, Nat.reducePow, Nat.reduceMul, Nat.reduceEqDiff, Nat.reduceLT, Nat.reduceLeDiff, Int.reduceToNat, Int.reduceLT, Int.reduceLE, Int.reduceEq, Int.reduceNeg, Int.reduceAdd, Int.reduceSub, Int.reduceMul], ⟨_, rfl⟩⟩
  | true =>
    simp only [if_true] at s1 s ⊢
    simp (disch := first | omega | (simp only [List.length_append, List.length_cons, List.length_nil]; omega)) only [go_sem, fill_c, ↓reduceIte, reduceCtorEq, Nat.reduceAdd, Nat.reduceSub, Nat.reducePow, Nat.reduceMul, Nat.reduceEqDiff, Nat.reduceLT, Nat.reduceLeDiff, Int.reduceToNat, Int.reduceLT, Int.reduceLE, Int.reduceEq, Int.reduceNeg, Int.reduceAdd, Int.reduceSub, Int.reduceMul]
    refine loop_to 1 (fun k st => if k = 0 then ∃ (j : Nat → D), st = ⟨(j 0 :: lD :: j 2 :: j 3 :: j 4 :: .own h.length 1 :: .int .i64 0 :: j 7 :: j 8 :: j 9 :: j 10 :: j 11 :: j 12 :: j 13 :: j 14 :: j 15 :: j 16 :: j 17 :: j 18 :: j 19 :: j 20 :: j 21 :: []), h ++ [.grow 1 [.int .u64 0] 1]⟩ else
      ∃ (j : Nat → D), st = ⟨(j 0 :: lD :: j 2 :: j 3 :: j 4 :: .own (h.length + 1) 1 :: .int .i64 1 :: j 7 :: j 8 :: j 9 :: j 10 :: j 11 :: j 12 :: j 13 :: j 14 :: j 15 :: j 16 :: j 17 :: j 18 :: j 19 :: j 20 :: j 21 :: []), h ++ [.grow 1 [.int .u64 0] 1, .grow 1 [.int .u64 1] 1]⟩) (by rw [if_pos rfl]; exact junk rfl) ?_
    rintro k st hk hi
    obtain rfl | rfl : k = 0 ∨ k = 1 := by omega
    · rw [if_pos rfl] at hi
      obtain ⟨j, rfl⟩ := hi
      obtain ⟨p, cs, q1, q2, q3⟩ := s1.elem (k := .i64) (i := 0) (by omega) (by omega)
      have q4 := q3 0 (by omega)
      simp only [Int.toNat_zero, Nat.zero_mul, Nat.add_zero, List.getElem?_cons_zero] at q4
      simp (disch := first | omega | (simp only [List.length_append, List.length_cons, List.length_nil]; omega)) only [c81r0, c81r1, c81r2, c81r3, c81r4, c81r5, c81l6, c81r7, s1.lend, s1.sort, q1, q2, q4, go_sem, fill_c, ↓reduceIte, reduceCtorEq, Nat.reduceAdd, Nat.reduceSub, Nat.reducePow, Nat.reduceMul, Nat.reduceEqDiff, Nat.reduceLT, Nat.reduceLeDiff, Int.reduceToNat, Int.reduceLT, Int.reduceLE, Int.reduceEq, Int.reduceNeg, Int.reduceAdd, Int.reduceSub, Int.reduceMul]
      refine gfc_of (setRef_fc _ _ [0] (show SlOf _ 1 _ (u64s [0]) 1 from own_of (cs := [.int .u64 0]) (by simp (disch := first | omega | (simp only [List.length_append, List.length_cons, List.length_nil]; omega)) only [go_sem, fill_c, ↓reduceIte, reduceCtorEq, Nat.reduceAdd, Nat.reduceSub, Nat.reducePow, Nat.reduceMul, Nat.reduceEqDiff, Nat.reduceLT, Nat.reduceLeDiff, Int.reduceToNat, Int.reduceLT, Int.reduceLE, Int.reduceEq, Int.reduceNeg, Int.reduceAdd, Int.reduceSub, Int.reduceMul]) rfl) (by simp) (by simp) 0 (by omega) (by omega)) ?_
      rintro x1 h1 (⟨_, hc, _⟩ | ⟨rfl, rfl⟩)
      · exact absurd hc (by simp [setR, insR, u64s])
      have e3 : u64s (setR [0] 0) = [.int .u64 1] := rfl
      rw [e3]
      simp (disch := first | omega | (simp only [List.length_append, List.length_cons, List.length_nil]; omega)) only [go_sem, fill_c, ↓reduceIte, reduceCtorEq, Nat.reduceAdd, Nat.reduceSub, Nat.reducePow, Nat.reduceMul, Nat.reduceEqDiff, Nat.reduceLT, Nat.reduceLeDiff, Int.reduceToNat, Int.reduceLT, Int.reduceLE, Int.reduceEq, Int.reduceNeg, Int.reduceAdd, Int.reduceSub, Int.reduceMul]
      exact junk rfl
    · rw [if_neg (by omega)] at hi
      obtain ⟨j, rfl⟩ := hi
      have s2 := s.low [.grow 1 [.int .u64 0] 1, .grow 1 [.int .u64 1] 1]
      simp (disch := first | omega | (simp only [List.length_append, List.length_cons, List.length_nil]; omega)) only [c81r0, c81r1, c81r2, c81r3, c81r4, c81r5, c81l6, c81r7, s2.lend, s2.sort, go_sem, fill_c, ↓reduceIte, reduceCtorEq, Nat.reduceAdd, Nat.reduceSub, Nat.reducePow, Nat.reduceMul, Nat.reduceEqDiff, Nat.reduceLT, Nat.reduceLeDiff, Int.reduceToNat, Int.reduceLT, Int.reduceLE, Int.reduceEq, Int.reduceNeg, Int.reduceAdd, Int.reduceSub, Int.reduceMul]
      exact FinOk.all ⟨_, rfl, by omega, by simp (disch := first | omega | (simp only [List.length_append, List.length_cons, List.length_nil]; omega)) only [go_sem, fill_c, ↓reduceIte, reduceCtorEq, Nat.reduceAdd, Nat.reduceSub, Nat.reducePow, Nat.reduceMul, Nat.reduceEqDiff, Nat.reduceLT, Nat.reduceLeDiff, Int.reduceToNat, Int.reduceLT, Int.reduceLE, Int.reduceEq, Int.reduceNeg, Int.reduceAdd, Int.reduceSub, Int.reduceMul], ⟨_, rfl⟩⟩
end Go.Proofs

/-
  Own work. The document's rows of one rule.
-/
namespace Go.Proofs
open Go Go.Ytodlpcoffmnmbaa
set_option linter.unusedVariables false
set_option linter.unusedSimpArgs false
set_option maxRecDepth 10000

/-- A slice of one place, if so. -/
def Cell1 (H : Heap) (n : Nat) (b : Bool) (q : D) : Prop := if b then ∃ r, q = .own r 1 ∧ n ≤ r ∧ H[r]? = some (.grow 1 [.int .i64 0] 1) else q = .nils
theorem Cell1.step {H : Heap} {n : Nat} {b : Bool} {q : D} (hc : Cell1 H n b q) {i : Nat} (hi : i < n) (x : Blk) (L : Heap) : Cell1 (H.set i x ++ L) n b q := by
  unfold Cell1 at hc ⊢
  split
  · rename_i hb
    rw [if_pos hb] at hc
    obtain ⟨r, h1, h2, h3⟩ := hc
    have hr := (List.getElem?_eq_some_iff.1 h3).1
    refine ⟨r, h1, h2, ?_⟩
    rw [List.getElem?_append_left (by rw [List.length_set]; exact hr), List.getElem?_set_ne (by omega)]; exact h3
  · rename_i hb
    rw [if_neg hb] at hc; exact hc
/-- What the first loop keeps. -/
structure RowsAt (h H : Heap) (bs cs : List D) : Prop where
  len : h.length + 7 ≤ H.length
  ext : ∀ i, i < h.length → H[i]? = h[i]?
  b1 : H[h.length + 1]? = some (.box (List.replicate 6 .nils))
  b2 : H[h.length + 2]? = some (.box (List.replicate 6 .nils))
  b4 : H[h.length + 4]? = some (.box cs)
  b6 : H[h.length + 6]? = some (.box bs)
theorem RowsAt.get {h H : Heap} {i : Nat} {b : Blk} (hb : H[i]? = some b) (L : Heap) : (H ++ L)[i]? = some b := by
  rw [List.getElem?_append_left (List.getElem?_eq_some_iff.1 hb).1]; exact hb
/-- What the second loop keeps. -/
structure OutAt (h H : Heap) (os cs : List D) : Prop where
  len : h.length + 7 ≤ H.length
  ext : Ext h H
  b1 : H[h.length + 1]? = some (.box (List.replicate 6 .nils))
  b2 : H[h.length + 2]? = some (.box os)
  b4 : H[h.length + 4]? = some (.box cs)
theorem set_ext {h H : Heap} (e : Ext h H) {i : Nat} (hi : h.length ≤ i) (b : Blk) (L : Heap) : Ext h (H.set i b ++ L) := by
  obtain ⟨M, rfl⟩ := e
  exact ⟨M.set (i - h.length) b ++ L, by rw [List.set_append_right _ _ hi, List.append_assoc]⟩
theorem OutAt.step {h H : Heap} {os cs : List D} (oa : OutAt h H os cs) (os' : List D) (L : Heap) : OutAt h (H.set (h.length + 2) (.box os') ++ L) os' cs := by
  have hl := oa.len
  have get : ∀ i b, i ≠ h.length + 2 → H[i]? = some b → (H.set (h.length + 2) (.box os') ++ L)[i]? = some b := by
    intro i b hi hb
    rw [List.getElem?_append_left (by rw [List.length_set]; exact (List.getElem?_eq_some_iff.1 hb).1), List.getElem?_set_ne (by omega)]; exact hb
  exact ⟨by simp only [List.length_append, List.length_set]; omega, set_ext oa.ext (by omega) _ _, get _ _ (by omega) oa.b1, by rw [List.getElem?_append_left (by rw [List.length_set]; omega), List.getElem?_set_self (by omega)], get _ _ (by omega) oa.b4⟩
theorem Cell1.sl {H : Heap} {n : Nat} {b : Bool} {q : D} (hc : Cell1 H n b q) : SlOf H 1 q (if b then [.int .i64 0] else []) (if b then 1 else 0) := by
  unfold Cell1 at hc
  cases b with
  | true =>
    rw [if_pos rfl] at hc ⊢
    obtain ⟨r, rfl, _, h3⟩ := hc
    exact own_of h3 rfl
  | false =>
    rw [if_neg (by simp)] at hc ⊢
    subst hc
    exact nils_of _ _
theorem RowsAt.step {h H : Heap} {bs cs : List D} (ra : RowsAt h H bs cs) (cs' : List D) (L : Heap) : RowsAt h (H.set (h.length + 4) (.box cs') ++ L) bs cs' := by
  have hl := ra.len
  have get : ∀ i b, i ≠ h.length + 4 → H[i]? = some b → (H.set (h.length + 4) (.box cs') ++ L)[i]? = some b := by
    intro i b hi hb
    rw [List.getElem?_append_left (by rw [List.length_set]; exact (List.getElem?_eq_some_iff.1 hb).1), List.getElem?_set_ne (by omega)]; exact hb
  refine ⟨by simp only [List.length_append, List.length_set]; omega, fun i hi => ?_, get _ _ (by omega) ra.b1, get _ _ (by omega) ra.b2, ?_, get _ _ (by omega) ra.b6⟩
  · rw [List.getElem?_append_left (by rw [List.length_set]; omega), List.getElem?_set_ne (by omega)]; exact ra.ext i hi
  · rw [List.getElem?_append_left (by rw [List.length_set]; omega), List.getElem?_set_self (by omega)]
set_option maxHeartbeats 4000000 in
theorem rows1_fc (h : Heap) (r : Ru) (ok : r.Ok) (k : Ky) (kok : k.Ok) (x : D) (hx : SlOf h 43 x (rusC [r]) 1) :
    FC Try.prog 54 [x, .agg (ky k)] h fun d h' => Ext h h' ∧ ∃ cs : List D, d = .agg cs ∧ cs.length = 6 ∧ ∀ (i : Nat) (b : Bool), (whyL r k)[i]? = some b → ∃ rr : Nat, cs[i]? = some (D.own rr 1) ∧ h'[rr]? = some (Blk.grow 1 [.int .u64 (if b then 1 else 0)] 1) := by
  have lr := ru_len ok
  have lk := ky_len kok
  have eh := rhas_fc
  simp only [prefD_pc] at eh
  have rc : rusC [r] = ru r := by simp [rusC]
  rw [rc] at hx
  refine FC.goes cf54 ?_; simp only [c54]; simp only [List.length_cons, List.length_nil, Nat.reduceAdd, Nat.reduceSub, List.replicate_succ, List.replicate_zero, List.cons_append, List.nil_append]
  simp (disch := first | omega | (simp only [List.length_append, List.length_cons, List.length_nil]; omega)) only [c54r0, c54r1, c54r2, c54r3, c54r4, lk, ky_one, kok, splice0, go_sem, fill_c, ↓reduceIte, reduceCtorEq, Nat.reduceAdd, Nat.reduceSub, Nat.reducePow, Nat.reduceMul, Nat.reduceEqDiff, Nat.reduceLT, Nat.reduceLeDiff, Int.reduceToNat, Int.reduceLT, Int.reduceLE, Int.reduceEq, Int.reduceNeg, Int.reduceAdd, Int.reduceSub, Int.reduceMul]
  refine loop_to 1 (fun n st => if n = 0 then ∃ (j : Nat → D), st = ⟨(x :: j 1 :: j 2 :: .ref h.length 0 :: .ref (h.length + 1) 0 :: .ref (h.length + 2) 0 :: .ref (h.length + 3) 0 :: .ref (h.length + 4) 0 :: .int .i64 0 :: j 9 :: j 10 :: j 11 :: j 12 :: j 13 :: j 14 :: j 15 :: j 16 :: j 17 :: j 18 :: j 19 :: j 20 :: j 21 :: j 22 :: j 23 :: j 24 :: j 25 :: j 26 :: j 27 :: j 28 :: j 29 :: j 30 :: j 31 :: j 32 :: j 33 :: j 34 :: j 35 :: j 36 :: j 37 :: j 38 :: j 39 :: j 40 :: j 41 :: j 42 :: j 43 :: j 44 :: j 45 :: j 46 :: j 47 :: j 48 :: j 49 :: j 50 :: j 51 :: j 52 :: j 53 :: j 54 :: j 55 :: j 56 :: j 57 :: j 58 :: j 59 :: j 60 :: j 61 :: j 62 :: j 63 :: j 64 :: j 65 :: j 66 :: j 67 :: j 68 :: j 69 :: j 70 :: j 71 :: j 72 :: j 73 :: j 74 :: j 75 :: j 76 :: j 77 :: j 78 :: j 79 :: j 80 :: j 81 :: j 82 :: j 83 :: j 84 :: j 85 :: j 86 :: j 87 :: j 88 :: j 89 :: j 90 :: j 91 :: j 92 :: j 93 :: j 94 :: j 95 :: j 96 :: j 97 :: j 98 :: j 99 :: j 100 :: j 101 :: j 102 :: j 103 :: j 104 :: j 105 :: j 106 :: j 107 :: j 108 :: j 109 :: j 110 :: j 111 :: j 112 :: j 113 :: j 114 :: j 115 :: j 116 :: []), h ++ [.box (ky k), .box (List.replicate 6 .nils), .box (List.replicate 6 .nils), .box [.int .i64 0, .int .i64 65535], .box (List.replicate 6 .nils)]⟩
    else ∃ (H : Heap) (cs bs : List D), RowsAt h H bs cs ∧ cs.length = 6 ∧ (∀ (i : Nat) (b : Bool), (whyL r k)[i]? = some b → ∃ q : D, cs[i]? = some q ∧ Cell1 H (h.length + 7) b q) ∧ ∃ (j : Nat → D), st = ⟨(x :: j 1 :: j 2 :: .ref h.length 0 :: .ref (h.length + 1) 0 :: .ref (h.length + 2) 0 :: j 6 :: .ref (h.length + 4) 0 :: .int .i64 1 :: j 9 :: j 10 :: j 11 :: j 12 :: j 13 :: j 14 :: j 15 :: j 16 :: j 17 :: j 18 :: j 19 :: j 20 :: j 21 :: j 22 :: j 23 :: j 24 :: j 25 :: j 26 :: j 27 :: j 28 :: j 29 :: j 30 :: j 31 :: j 32 :: j 33 :: j 34 :: j 35 :: j 36 :: j 37 :: j 38 :: j 39 :: j 40 :: j 41 :: j 42 :: j 43 :: j 44 :: j 45 :: j 46 :: j 47 :: j 48 :: j 49 :: j 50 :: j 51 :: j 52 :: j 53 :: j 54 :: j 55 :: j 56 :: j 57 :: j 58 :: j 59 :: j 60 :: j 61 :: j 62 :: j 63 :: j 64 :: j 65 :: j 66 :: j 67 :: j 68 :: j 69 :: j 70 :: j 71 :: j 72 :: j 73 :: j 74 :: j 75 :: j 76 :: j 77 :: j 78 :: j 79 :: j 80 :: j 81 :: j 82 :: j 83 :: j 84 :: j 85 :: j 86 :: j 87 :: j 88 :: j 89 :: j 90 :: j 91 :: j 92 :: j 93 :: j 94 :: j 95 :: j 96 :: j 97 :: j 98 :: j 99 :: j 100 :: j 101 :: j 102 :: j 103 :: j 104 :: j 105 :: j 106 :: j 107 :: j 108 :: j 109 :: j 110 :: j 111 :: j 112 :: j 113 :: j 114 :: j 115 :: j 116 :: []), H⟩) (by rw [if_pos rfl]; exact junk rfl) ?_
  rintro n st hn hi
  obtain rfl | rfl : n = 0 ∨ n = 1 := by omega
  · rw [if_pos rfl] at hi
    obtain ⟨j, rfl⟩ := hi
    have hx2 := hx.low [.box (ky k), .box (List.replicate 6 .nils), .box (List.replicate 6 .nils), .box [.int .i64 0, .int .i64 65535], .box (List.replicate 6 .nils)]
    obtain ⟨p, cs, q1, q2, q3, q4⟩ := sl_load hx2 (k := .i64) (i := 0) (by omega)
    rw [Nat.zero_mul, List.drop_zero, ru_take ok] at q4
    have q1' : elemAddr (h ++ [.box (ky k), .box (List.replicate 6 .nils), .box (List.replicate 6 .nils), .box [.int .i64 0, .int .i64 65535], .box (List.replicate 6 .nils)]) 43 x (.int .i64 0) = some p := q1
    simp (disch := first | omega | (simp only [List.length_append, List.length_cons, List.length_nil]; omega)) only [c54l16, c54r5, c54r6, hx2.lend, hx2.sort, q1', q2, q3, q4, lr, ru_one, ok, go_sem, fill_c, ↓reduceIte, reduceCtorEq, Nat.reduceAdd, Nat.reduceSub, Nat.reducePow, Nat.reduceMul, Nat.reduceEqDiff, Nat.reduceLT, Nat.reduceLeDiff, Int.reduceToNat, Int.reduceLT, Int.reduceLE, Int.reduceEq, Int.reduceNeg, Int.reduceAdd, Int.reduceSub, Int.reduceMul]
    generalize hp0 : hasF r.sv r.sa r.sn k.v k.s = p0
    generalize hp1 : hasF r.dv r.da r.dn k.v k.d = p1
    generalize hp2 : portOk r.slo r.shi k.ports k.sp = p2
    generalize hp3 : portOk r.dlo r.dhi k.ports k.dp = p3
    generalize hp4 : wishOk r.proto k.proto = p4
    generalize hp5 : wishOk r.dscp k.dscp = p5
    refine gq_cut (fun st => ∃ (j : Nat → D), st = ⟨(x :: j 1 :: j 2 :: .ref h.length 0 :: .ref (h.length + 1) 0 :: .ref (h.length + 2) 0 :: j 6 :: .ref (h.length + 4) 0 :: .int .i64 0 :: j 9 :: .ref (h.length + 6) 0 :: j 11 :: j 12 :: j 13 :: j 14 :: j 15 :: j 16 :: j 17 :: j 18 :: j 19 :: j 20 :: j 21 :: j 22 :: j 23 :: j 24 :: j 25 :: j 26 :: j 27 :: j 28 :: j 29 :: j 30 :: j 31 :: j 32 :: j 33 :: j 34 :: j 35 :: j 36 :: j 37 :: j 38 :: j 39 :: j 40 :: j 41 :: j 42 :: j 43 :: j 44 :: j 45 :: j 46 :: j 47 :: j 48 :: j 49 :: j 50 :: j 51 :: j 52 :: j 53 :: j 54 :: j 55 :: j 56 :: j 57 :: j 58 :: j 59 :: j 60 :: j 61 :: j 62 :: j 63 :: j 64 :: j 65 :: j 66 :: j 67 :: j 68 :: j 69 :: j 70 :: j 71 :: j 72 :: j 73 :: j 74 :: j 75 :: j 76 :: j 77 :: j 78 :: j 79 :: j 80 :: j 81 :: j 82 :: j 83 :: j 84 :: j 85 :: j 86 :: j 87 :: j 88 :: j 89 :: j 90 :: j 91 :: j 92 :: j 93 :: j 94 :: j 95 :: j 96 :: j 97 :: j 98 :: j 99 :: j 100 :: j 101 :: j 102 :: j 103 :: j 104 :: j 105 :: j 106 :: j 107 :: j 108 :: j 109 :: j 110 :: j 111 :: j 112 :: j 113 :: j 114 :: j 115 :: j 116 :: []), h ++ [.box (ky k), .box (List.replicate 6 .nils), .box (List.replicate 6 .nils), .box [.int .i64 0, .int .i64 65535], .box (List.replicate 6 .nils), .box (ru r), .box [.bool p0, .bool p1, .bool p2, .bool p3, .bool p4, .bool p5]]⟩) ?_ ?_
    · simp (disch := first | omega | (simp only [List.length_append, List.length_cons, List.length_nil]; omega)) only [c54r7, c54r8, lr, ru_s, ru_d, ru_l18, ok, ky_s, ky_d, ky_l1, ky_l17, ky_0, kok, go_sem, fill_c, ↓reduceIte, reduceCtorEq, Nat.reduceAdd, Nat.reduceSub, Nat.reducePow, Nat.reduceMul, Nat.reduceEqDiff, Nat.reduceLT, Nat.reduceLeDiff, Int.reduceToNat, Int.reduceLT, Int.reduceLE, Int.reduceEq, Int.reduceNeg, Int.reduceAdd, Int.reduceSub, Int.reduceMul]
      refine kfcL_of (fun L => eh _ r.sv r.sn k.v r.sa k.s ok.s kok.s) ?_
      rw [hp0]
      simp (disch := first | omega | (simp only [List.length_append, List.length_cons, List.length_nil]; omega)) only [lr, ru_s, ru_d, ru_l18, ok, ky_s, ky_d, ky_l1, ky_l17, ky_0, kok, go_sem, fill_c, ↓reduceIte, reduceCtorEq, Nat.reduceAdd, Nat.reduceSub, Nat.reducePow, Nat.reduceMul, Nat.reduceEqDiff, Nat.reduceLT, Nat.reduceLeDiff, Int.reduceToNat, Int.reduceLT, Int.reduceLE, Int.reduceEq, Int.reduceNeg, Int.reduceAdd, Int.reduceSub, Int.reduceMul]
      refine kfcL_of (fun L => eh _ r.dv r.dn k.v r.da k.d ok.d kok.d) ?_
      rw [hp1]
      simp (disch := first | omega | (simp only [List.length_append, List.length_cons, List.length_nil]; omega)) only [ru_d36, ru_d38, ruT, ok, ky_d35, ky_d36, ky_d37, kyT, kok, go_sem, fill_c, ↓reduceIte, reduceCtorEq, Nat.reduceAdd, Nat.reduceSub, Nat.reducePow, Nat.reduceMul, Nat.reduceEqDiff, Nat.reduceLT, Nat.reduceLeDiff, Int.reduceToNat, Int.reduceLT, Int.reduceLE, Int.reduceEq, Int.reduceNeg, Int.reduceAdd, Int.reduceSub, Int.reduceMul]
      have cp : ∀ (lo hi n : Int) (q : Bool), portOk lo hi k.ports n = q → ((lo == 0 && hi == 65535) = true ∧ q = true) ∨ ((lo == 0 && hi == 65535) = false ∧ k.ports = true ∧ q = spanHas lo hi n) ∨ ((lo == 0 && hi == 65535) = false ∧ k.ports = false ∧ q = false) := by
        intro lo hi n q hq
        subst hq
        unfold portOk
        cases (lo == 0 && hi == 65535) <;> cases k.ports <;> simp
      have cw : ∀ (w n : Int) (q : Bool), wishOk w n = q → (decide (w = -1) = true ∧ q = true) ∨ (decide (w = -1) = false ∧ q = decide (w = n)) := by
        intro w n q hq
        subst hq
        unfold wishOk
        cases decide (w = -1) <;> simp
      have c2 := cp _ _ _ _ hp2
      have c3 := cp _ _ _ _ hp3
      have c4 := cw _ _ _ hp4
      have c5 := cw _ _ _ hp5
      clear hp0 hp1 hp2 hp3 hp4 hp5
      rcases c2 with ⟨a1, rfl⟩ | ⟨a1, a2, rfl⟩ | ⟨a1, a2, rfl⟩
      all_goals first | simp (disch := first | omega | (simp only [List.length_append, List.length_cons, List.length_nil]; omega)) only [a1, a2, lr, ru_d36, ru_d38, ru_d40, ru_d41, ruT, ok, ky_d33, ky_d34, ky_d35, ky_d36, ky_d37, kyT, kok, go_sem, fill_c, ↓reduceIte, reduceCtorEq, Nat.reduceAdd, Nat.reduceSub, Nat.reducePow, Nat.reduceMul, Nat.reduceEqDiff, Nat.reduceLT, Nat.reduceLeDiff, Int.reduceToNat, Int.reduceLT, Int.reduceLE, Int.reduceEq, Int.reduceNeg, Int.reduceAdd, Int.reduceSub, Int.reduceMul] | simp (disch := first | omega | (simp only [List.length_append, List.length_cons, List.length_nil]; omega)) only [a1, lr, ru_d36, ru_d38, ru_d40, ru_d41, ruT, ok, ky_d33, ky_d34, ky_d35, ky_d36, ky_d37, kyT, kok, go_sem, fill_c, ↓reduceIte, reduceCtorEq, Nat.reduceAdd, Nat.reduceSub, Nat.reducePow, Nat.reduceMul, Nat.reduceEqDiff, Nat.reduceLT, Nat.reduceLeDiff, Int.reduceToNat, Int.reduceLT, Int.reduceLE, Int.reduceEq, Int.reduceNeg, Int.reduceAdd, Int.reduceSub, Int.reduceMul]
      all_goals try (refine kfcL_of (fun L => rshas_fc _ _ _ _) ?_; simp (disch := first | omega | (simp only [List.length_append, List.length_cons, List.length_nil]; omega)) only [lr, ru_d36, ru_d38, ru_d40, ru_d41, ruT, ok, ky_d33, ky_d34, ky_d35, ky_d36, ky_d37, kyT, kok, go_sem, fill_c, ↓reduceIte, reduceCtorEq, Nat.reduceAdd, Nat.reduceSub, Nat.reducePow, Nat.reduceMul, Nat.reduceEqDiff, Nat.reduceLT, Nat.reduceLeDiff, Int.reduceToNat, Int.reduceLT, Int.reduceLE, Int.reduceEq, Int.reduceNeg, Int.reduceAdd, Int.reduceSub, Int.reduceMul])
      all_goals rcases c3 with ⟨b1, rfl⟩ | ⟨b1, b2, rfl⟩ | ⟨b1, b2, rfl⟩
      all_goals first | (exfalso; rw [a2] at b2; cases b2; done) | skip
      all_goals first | simp (disch := first | omega | (simp only [List.length_append, List.length_cons, List.length_nil]; omega)) only [b1, b2, Bool.false_and, lr, ru_d36, ru_d38, ru_d40, ru_d41, ruT, ok, ky_d33, ky_d34, ky_d35, ky_d36, ky_d37, kyT, kok, go_sem, fill_c, ↓reduceIte, reduceCtorEq, Nat.reduceAdd, Nat.reduceSub, Nat.reducePow, Nat.reduceMul, Nat.reduceEqDiff, Nat.reduceLT, Nat.reduceLeDiff, Int.reduceToNat, Int.reduceLT, Int.reduceLE, Int.reduceEq, Int.reduceNeg, Int.reduceAdd, Int.reduceSub, Int.reduceMul] | simp (disch := first | omega | (simp only [List.length_append, List.length_cons, List.length_nil]; omega)) only [b1, lr, ru_d36, ru_d38, ru_d40, ru_d41, ruT, ok, ky_d33, ky_d34, ky_d35, ky_d36, ky_d37, kyT, kok, go_sem, fill_c, ↓reduceIte, reduceCtorEq, Nat.reduceAdd, Nat.reduceSub, Nat.reducePow, Nat.reduceMul, Nat.reduceEqDiff, Nat.reduceLT, Nat.reduceLeDiff, Int.reduceToNat, Int.reduceLT, Int.reduceLE, Int.reduceEq, Int.reduceNeg, Int.reduceAdd, Int.reduceSub, Int.reduceMul]
      all_goals try (refine kfcL_of (fun L => rshas_fc _ _ _ _) ?_; simp (disch := first | omega | (simp only [List.length_append, List.length_cons, List.length_nil]; omega)) only [lr, ru_d36, ru_d38, ru_d40, ru_d41, ruT, ok, ky_d33, ky_d34, ky_d35, ky_d36, ky_d37, kyT, kok, go_sem, fill_c, ↓reduceIte, reduceCtorEq, Nat.reduceAdd, Nat.reduceSub, Nat.reducePow, Nat.reduceMul, Nat.reduceEqDiff, Nat.reduceLT, Nat.reduceLeDiff, Int.reduceToNat, Int.reduceLT, Int.reduceLE, Int.reduceEq, Int.reduceNeg, Int.reduceAdd, Int.reduceSub, Int.reduceMul])
      all_goals rcases c4 with ⟨d1, rfl⟩ | ⟨d1, rfl⟩
      all_goals simp (disch := first | omega | (simp only [List.length_append, List.length_cons, List.length_nil]; omega)) only [d1, lr, ru_d36, ru_d38, ru_d40, ru_d41, ruT, ok, ky_d33, ky_d34, ky_d35, ky_d36, ky_d37, kyT, kok, go_sem, fill_c, ↓reduceIte, reduceCtorEq, Nat.reduceAdd, Nat.reduceSub, Nat.reducePow, Nat.reduceMul, Nat.reduceEqDiff, Nat.reduceLT, Nat.reduceLeDiff, Int.reduceToNat, Int.reduceLT, Int.reduceLE, Int.reduceEq, Int.reduceNeg, Int.reduceAdd, Int.reduceSub, Int.reduceMul]
      all_goals rcases c5 with ⟨e1, rfl⟩ | ⟨e1, rfl⟩
      all_goals simp (disch := first | omega | (simp only [List.length_append, List.length_cons, List.length_nil]; omega)) only [e1, List.replicate_succ, List.replicate_zero, lr, ru_d36, ru_d38, ru_d40, ru_d41, ruT, ok, ky_d33, ky_d34, ky_d35, ky_d36, ky_d37, kyT, kok, go_sem, fill_c, ↓reduceIte, reduceCtorEq, Nat.reduceAdd, Nat.reduceSub, Nat.reducePow, Nat.reduceMul, Nat.reduceEqDiff, Nat.reduceLT, Nat.reduceLeDiff, Int.reduceToNat, Int.reduceLT, Int.reduceLE, Int.reduceEq, Int.reduceNeg, Int.reduceAdd, Int.reduceSub, Int.reduceMul]
      all_goals exact junk rfl
    · rintro st ⟨j, rfl⟩
      have hw : whyL r k = [p0, p1, p2, p3, p4, p5] := by simp only [whyL, hp0, hp1, hp2, hp3, hp4, hp5]
      rw [hw]
      clear hw hp0 hp1 hp2 hp3 hp4 hp5
      have ra0 : RowsAt h (h ++ [.box (ky k), .box (List.replicate 6 .nils), .box (List.replicate 6 .nils), .box [.int .i64 0, .int .i64 65535], .box (List.replicate 6 .nils), .box (ru r), .box [.bool p0, .bool p1, .bool p2, .bool p3, .bool p4, .bool p5]]) [.bool p0, .bool p1, .bool p2, .bool p3, .bool p4, .bool p5] (List.replicate 6 .nils) :=
        ⟨by simp, fun i hi => List.getElem?_append_left hi, by simp (disch := first | omega | (simp only [List.length_append, List.length_cons, List.length_nil]; omega)) only [go_sem, fill_c, ↓reduceIte, reduceCtorEq, Nat.reduceAdd, Nat.reduceSub, Nat.reducePow, Nat.reduceMul, Nat.reduceEqDiff, Nat.reduceLT, Nat.reduceLeDiff, Int.reduceToNat, Int.reduceLT, Int.reduceLE, Int.reduceEq, Int.reduceNeg, Int.reduceAdd, Int.reduceSub, Int.reduceMul], by simp (disch := first | omega | (simp only [List.length_append, List.length_cons, List.length_nil]; omega)) only [go_sem, fill_c, ↓reduceIte, reduceCtorEq, Nat.reduceAdd, Nat.reduceSub, Nat.reducePow, Nat.reduceMul, Nat.reduceEqDiff, Nat.reduceLT, Nat.reduceLeDiff, Int.reduceToNat, Int.reduceLT, Int.reduceLE, Int.reduceEq, Int.reduceNeg, Int.reduceAdd, Int.reduceSub, Int.reduceMul], by simp (disch := first | omega | (simp only [List.length_append, List.length_cons, List.length_nil]; omega)) only [go_sem, fill_c, ↓reduceIte, reduceCtorEq, Nat.reduceAdd, Nat.reduceSub, Nat.reducePow, Nat.reduceMul, Nat.reduceEqDiff, Nat.reduceLT, Nat.reduceLeDiff, Int.reduceToNat, Int.reduceLT, Int.reduceLE, Int.reduceEq, Int.reduceNeg, Int.reduceAdd, Int.reduceSub, Int.reduceMul], by simp (disch := first | omega | (simp only [List.length_append, List.length_cons, List.length_nil]; omega)) only [go_sem, fill_c, ↓reduceIte, reduceCtorEq, Nat.reduceAdd, Nat.reduceSub, Nat.reducePow, Nat.reduceMul, Nat.reduceEqDiff, Nat.reduceLT, Nat.reduceLeDiff, Int.reduceToNat, Int.reduceLT, Int.reduceLE, Int.reduceEq, Int.reduceNeg, Int.reduceAdd, Int.reduceSub, Int.reduceMul]⟩
      generalize h ++ [.box (ky k), .box (List.replicate 6 .nils), .box (List.replicate 6 .nils), .box [.int .i64 0, .int .i64 65535], .box (List.replicate 6 .nils), .box (ru r), .box [.bool p0, .bool p1, .bool p2, .bool p3, .bool p4, .bool p5]] = H0 at ra0
      simp (disch := first | omega | (simp only [List.length_append, List.length_cons, List.length_nil]; omega)) only [c54r9, c54l14, go_sem, fill_c, ↓reduceIte, reduceCtorEq, Nat.reduceAdd, Nat.reduceSub, Nat.reducePow, Nat.reduceMul, Nat.reduceEqDiff, Nat.reduceLT, Nat.reduceLeDiff, Int.reduceToNat, Int.reduceLT, Int.reduceLE, Int.reduceEq, Int.reduceNeg, Int.reduceAdd, Int.reduceSub, Int.reduceMul]
      refine loop_to 6 (fun n st => ∃ (H : Heap) (cs : List D), RowsAt h H [.bool p0, .bool p1, .bool p2, .bool p3, .bool p4, .bool p5] cs ∧ cs.length = 6 ∧ (∀ i, i < 6 → n ≤ i → cs[i]? = some .nils) ∧
        (∀ (i : Nat) (b : Bool), i < n → [p0, p1, p2, p3, p4, p5][i]? = some b → ∃ q : D, cs[i]? = some q ∧ Cell1 H (h.length + 7) b q) ∧ ∃ (j : Nat → D), st = ⟨(x :: j 1 :: j 2 :: .ref h.length 0 :: .ref (h.length + 1) 0 :: .ref (h.length + 2) 0 :: j 6 :: .ref (h.length + 4) 0 :: .int .i64 0 :: j 9 :: .ref (h.length + 6) 0 :: .int .i64 (n : Int) :: j 12 :: j 13 :: j 14 :: j 15 :: j 16 :: j 17 :: j 18 :: j 19 :: j 20 :: j 21 :: j 22 :: j 23 :: j 24 :: j 25 :: j 26 :: j 27 :: j 28 :: j 29 :: j 30 :: j 31 :: j 32 :: j 33 :: j 34 :: j 35 :: j 36 :: j 37 :: j 38 :: j 39 :: j 40 :: j 41 :: j 42 :: j 43 :: j 44 :: j 45 :: j 46 :: j 47 :: j 48 :: j 49 :: j 50 :: j 51 :: j 52 :: j 53 :: j 54 :: j 55 :: j 56 :: j 57 :: j 58 :: j 59 :: j 60 :: j 61 :: j 62 :: j 63 :: j 64 :: j 65 :: j 66 :: j 67 :: j 68 :: j 69 :: j 70 :: j 71 :: j 72 :: j 73 :: j 74 :: j 75 :: j 76 :: j 77 :: j 78 :: j 79 :: j 80 :: j 81 :: j 82 :: j 83 :: j 84 :: j 85 :: j 86 :: j 87 :: j 88 :: j 89 :: j 90 :: j 91 :: j 92 :: j 93 :: j 94 :: j 95 :: j 96 :: j 97 :: j 98 :: j 99 :: j 100 :: j 101 :: j 102 :: j 103 :: j 104 :: j 105 :: j 106 :: j 107 :: j 108 :: j 109 :: j 110 :: j 111 :: j 112 :: j 113 :: j 114 :: j 115 :: j 116 :: []), H⟩)
        ⟨H0, _, ra0, rfl, fun i h1 h2 => by rw [List.getElem?_replicate_of_lt h1], fun i b h1 => absurd h1 (by omega), junk rfl⟩ ?_
      rintro n st hn ⟨H, cs, ra, hcl, hnil, hcell, j, rfl⟩
      obtain rfl | hn : n = 6 ∨ n < 6 := by omega
      · simp (disch := first | omega | (simp only [List.length_append, List.length_cons, List.length_nil]; omega)) only [c54r10, c54r15, go_sem, fill_c, ↓reduceIte, reduceCtorEq, Nat.reduceAdd, Nat.reduceSub, Nat.reducePow, Nat.reduceMul, Nat.reduceEqDiff, Nat.reduceLT, Nat.reduceLeDiff, Int.reduceToNat, Int.reduceLT, Int.reduceLE, Int.reduceEq, Int.reduceNeg, Int.reduceAdd, Int.reduceSub, Int.reduceMul]
        exact ⟨H, cs, _, ra, hcl, fun i b hib => hcell i b (by have := (List.getElem?_eq_some_iff.1 hib).1; simpa using this) hib, junk rfl⟩
      · have hn' : (n : Int) < 6 := by omega
        obtain ⟨b, hb, hbd⟩ : ∃ b : Bool, [p0, p1, p2, p3, p4, p5][n]? = some b ∧ [D.bool p0, .bool p1, .bool p2, .bool p3, .bool p4, .bool p5][n]? = some (.bool b) := by
          obtain rfl | rfl | rfl | rfl | rfl | rfl : n = 0 ∨ n = 1 ∨ n = 2 ∨ n = 3 ∨ n = 4 ∨ n = 5 := by omega
          all_goals exact ⟨_, rfl, rfl⟩
        have hbd' : (List.drop n [D.bool p0, .bool p1, .bool p2, .bool p3, .bool p4, .bool p5])[0]? = some (.bool b) := by rw [List.getElem?_drop]; exact hbd
        have hnn : (List.drop n cs)[0]? = some .nils := by rw [List.getElem?_drop]; exact hnil n hn (Nat.le_refl _)
        have hn6 : n + 1 ≤ cs.length := by omega
        have e5 : IntKind.i64.wrap ((n : Int) + 1) = ((n + 1 : Nat) : Int) := by rw [w_i64 (by omega) (by omega)]; omega
        have hb4 : ∀ L, (H ++ L)[h.length + 4]? = some (.box cs) := RowsAt.get (h := h) ra.b4
        have hs : ∀ (L : Heap) (b : Blk), (H ++ L).set (h.length + 4) b = H.set (h.length + 4) b ++ L := fun L b => List.set_append_left _ _ (by have := ra.len; omega)
        cases b with
        | true =>
          simp (disch := first | omega | (simp only [List.length_append, List.length_cons, List.length_nil]; omega)) only [c54r10, c54r11, c54r12, c54r13, hn', ra.b6, ra.b4, hb4, hs, hbd', hnn, hn6, e5, go_sem, fill_c, ↓reduceIte, reduceCtorEq, Nat.reduceAdd, Nat.reduceSub, Nat.reducePow, Nat.reduceMul, Nat.reduceEqDiff, Nat.reduceLT, Nat.reduceLeDiff, Int.reduceToNat, Int.reduceLT, Int.reduceLE, Int.reduceEq, Int.reduceNeg, Int.reduceAdd, Int.reduceSub, Int.reduceMul]
          refine ⟨hn, _, _, ra.step (cs.set n _) _, by rw [List.length_set]; exact hcl, fun i h1 h2 => by rw [List.getElem?_set_ne (by omega)]; exact hnil i h1 (by omega), fun i b' hi' hb' => ?_, junk rfl⟩
          obtain rfl | hlt : i = n ∨ i < n := by omega
          · rw [hb] at hb'
            injection hb' with hb'
            subst hb'
            refine ⟨_, List.getElem?_set_self (by omega), ?_⟩
            rw [Cell1, if_pos rfl]
            have := ra.len
            refine ⟨_, rfl, by omega, ?_⟩
            rw [List.getElem?_append_right (by rw [List.length_set]; omega), List.length_set, Nat.add_sub_cancel_left]; rfl
          · obtain ⟨q, q1, q2⟩ := hcell i b' hlt hb'
            exact ⟨q, by rw [List.getElem?_set_ne (by omega)]; exact q1, q2.step (by omega) _ _⟩
        | false =>
          simp (disch := first | omega | (simp only [List.length_append, List.length_cons, List.length_nil]; omega)) only [c54r10, c54r11, c54r12, c54r13, hn', ra.b6, hbd', e5, go_sem, fill_c, ↓reduceIte, reduceCtorEq, Nat.reduceAdd, Nat.reduceSub, Nat.reducePow, Nat.reduceMul, Nat.reduceEqDiff, Nat.reduceLT, Nat.reduceLeDiff, Int.reduceToNat, Int.reduceLT, Int.reduceLE, Int.reduceEq, Int.reduceNeg, Int.reduceAdd, Int.reduceSub, Int.reduceMul]
          refine ⟨hn, H, cs, ra, hcl, fun i h1 h2 => hnil i h1 (by omega), fun i b' hi' hb' => ?_, junk rfl⟩
          obtain rfl | hlt : i = n ∨ i < n := by omega
          · rw [hb] at hb'
            injection hb' with hb'
            subst hb'
            exact ⟨_, hnil i hn (Nat.le_refl _), by rw [Cell1, if_neg (by simp)]⟩
          · exact hcell i b' hlt hb'
  · rw [if_neg (by omega)] at hi
    obtain ⟨H, cs, bs, ra, hcl, hcell, j, rfl⟩ := hi
    have eH : Ext h H := ⟨H.drop h.length, by
      apply List.ext_getElem?
      intro i
      have := ra.len
      by_cases hi : i < h.length
      · rw [List.getElem?_append_left hi]; exact ra.ext i hi
      · rw [List.getElem?_append_right (by omega), List.getElem?_drop, show h.length + (i - h.length) = i by omega]⟩
    have sH := SlOf.ext hx eH
    simp (disch := first | omega | (simp only [List.length_append, List.length_cons, List.length_nil]; omega)) only [c54l16, c54r5, c54r17, c54l21, sH.lend, sH.sort, go_sem, fill_c, ↓reduceIte, reduceCtorEq, Nat.reduceAdd, Nat.reduceSub, Nat.reducePow, Nat.reduceMul, Nat.reduceEqDiff, Nat.reduceLT, Nat.reduceLeDiff, Int.reduceToNat, Int.reduceLT, Int.reduceLE, Int.reduceEq, Int.reduceNeg, Int.reduceAdd, Int.reduceSub, Int.reduceMul]
    clear sH
    refine loop_to 6 (fun n st => ∃ (H : Heap) (os : List D), OutAt h H os cs ∧ os.length = 6 ∧ (∀ (i : Nat) (b : Bool), (whyL r k)[i]? = some b → ∃ q : D, cs[i]? = some q ∧ Cell1 H (h.length + 7) b q) ∧
      (∀ (i : Nat) (b : Bool), i < n → (whyL r k)[i]? = some b → ∃ rr : Nat, os[i]? = some (D.own rr 1) ∧ h.length + 7 ≤ rr ∧ H[rr]? = some (Blk.grow 1 [.int .u64 (if b then 1 else 0)] 1)) ∧
      ∃ (j : Nat → D), st = ⟨(x :: j 1 :: j 2 :: j 3 :: .ref (h.length + 1) 0 :: .ref (h.length + 2) 0 :: j 6 :: .ref (h.length + 4) 0 :: j 8 :: j 9 :: j 10 :: j 11 :: .int .i64 (n : Int) :: j 13 :: j 14 :: j 15 :: j 16 :: j 17 :: j 18 :: j 19 :: j 20 :: j 21 :: j 22 :: j 23 :: j 24 :: j 25 :: j 26 :: j 27 :: j 28 :: j 29 :: j 30 :: j 31 :: j 32 :: j 33 :: j 34 :: j 35 :: j 36 :: j 37 :: j 38 :: j 39 :: j 40 :: j 41 :: j 42 :: j 43 :: j 44 :: j 45 :: j 46 :: j 47 :: j 48 :: j 49 :: j 50 :: j 51 :: j 52 :: j 53 :: j 54 :: j 55 :: j 56 :: j 57 :: j 58 :: j 59 :: j 60 :: j 61 :: j 62 :: j 63 :: j 64 :: j 65 :: j 66 :: j 67 :: j 68 :: j 69 :: j 70 :: j 71 :: j 72 :: j 73 :: j 74 :: j 75 :: j 76 :: j 77 :: j 78 :: j 79 :: j 80 :: j 81 :: j 82 :: j 83 :: j 84 :: j 85 :: j 86 :: j 87 :: j 88 :: j 89 :: j 90 :: j 91 :: j 92 :: j 93 :: j 94 :: j 95 :: j 96 :: j 97 :: j 98 :: j 99 :: j 100 :: j 101 :: j 102 :: j 103 :: j 104 :: j 105 :: j 106 :: j 107 :: j 108 :: j 109 :: j 110 :: j 111 :: j 112 :: j 113 :: j 114 :: j 115 :: j 116 :: []), H⟩)
      ⟨H, _, ⟨ra.len, eH, ra.b1, ra.b2, ra.b4⟩, rfl, hcell, fun i b h1 => absurd h1 (by omega), junk rfl⟩ ?_
    clear ra hcell eH
    rintro n st hn ⟨H, os, oa, hol, hcell, hout, j, rfl⟩
    obtain rfl | hn : n = 6 ∨ n < 6 := by omega
    · have tos : os.take 6 = os := List.take_of_length_le (by omega)
      have h6 : 6 ≤ os.length := by omega
      have hl := oa.len
      have hself : (H.set (h.length + 1) (.box os))[h.length + 1]? = some (.box os) := List.getElem?_set_self (by omega)
      have hone : os.all D.one = true := by
        rw [List.all_eq_true]
        intro y hy
        obtain ⟨i, hi⟩ := List.mem_iff_getElem?.1 hy
        have hi6 : i < 6 := by have := (List.getElem?_eq_some_iff.1 hi).1; omega
        obtain ⟨b, hb⟩ : ∃ b : Bool, (whyL r k)[i]? = some b := by
          have : i < (whyL r k).length := by simp [whyL]; omega
          exact ⟨_, List.getElem?_eq_getElem this⟩
        obtain ⟨rr, h1, _⟩ := hout i b hi6 hb
        rw [hi] at h1
        injection h1 with h1
        subst h1; rfl
      simp (disch := first | omega | (simp only [List.length_append, List.length_cons, List.length_nil]; omega)) only [c54r18, c54r22, oa.b1, oa.b2, tos, h6, hself, hone, hol, go_sem, fill_c, ↓reduceIte, reduceCtorEq, Nat.reduceAdd, Nat.reduceSub, Nat.reducePow, Nat.reduceMul, Nat.reduceEqDiff, Nat.reduceLT, Nat.reduceLeDiff, Int.reduceToNat, Int.reduceLT, Int.reduceLE, Int.reduceEq, Int.reduceNeg, Int.reduceAdd, Int.reduceSub, Int.reduceMul]
      have e1 := set_ext oa.ext (i := h.length + 1) (by omega) (.box os) []
      rw [List.append_nil] at e1
      refine FinOk.all ⟨e1, os, rfl, hol, fun i b hb => ?_⟩
      have hi6 : i < 6 := by have := (List.getElem?_eq_some_iff.1 hb).1; simpa [whyL] using this
      obtain ⟨rr, h1, h2, h3⟩ := hout i b hi6 hb
      exact ⟨rr, h1, by rw [List.getElem?_set_ne (by omega)]; exact h3⟩
    · have hn' : (n : Int) < 6 := by omega
      obtain ⟨b, hb⟩ : ∃ b : Bool, (whyL r k)[n]? = some b := by
        have : n < (whyL r k).length := by simp [whyL]; omega
        exact ⟨_, List.getElem?_eq_getElem this⟩
      obtain ⟨q, hq, hc⟩ := hcell n b hb
      have hq' : (List.drop n cs)[0]? = some q := by rw [List.getElem?_drop]; exact hq
      have e5 : IntKind.i64.wrap ((n : Int) + 1) = ((n + 1 : Nat) : Int) := by rw [w_i64 (by omega) (by omega)]; omega
      have sH := SlOf.ext hx oa.ext
      simp (disch := first | omega | (simp only [List.length_append, List.length_cons, List.length_nil]; omega)) only [c54r18, c54r19, hn', oa.b4, hq', sH.lend, sH.sort, go_sem, fill_c, ↓reduceIte, reduceCtorEq, Nat.reduceAdd, Nat.reduceSub, Nat.reducePow, Nat.reduceMul, Nat.reduceEqDiff, Nat.reduceLT, Nat.reduceLeDiff, Int.reduceToNat, Int.reduceLT, Int.reduceLE, Int.reduceEq, Int.reduceNeg, Int.reduceAdd, Int.reduceSub, Int.reduceMul]
      refine gfc_of (of1_fc _ b q hc.sl) ?_
      rintro d h' ⟨rr, rfl, hrr, hg, L, rfl⟩
      have hl := oa.len
      have hb2 : ∀ L, (H ++ L)[h.length + 2]? = some (.box os) := RowsAt.get (h := h) oa.b2
      have hs : ∀ (L : Heap) (b : Blk), (H ++ L).set (h.length + 2) b = H.set (h.length + 2) b ++ L := fun L b => List.set_append_left _ _ (by omega)
      have hn6 : n + 1 ≤ os.length := by omega
      simp (disch := first | omega | (simp only [List.length_append, List.length_cons, List.length_nil]; omega)) only [c54r20, hb2, hs, hn6, e5, go_sem, fill_c, ↓reduceIte, reduceCtorEq, Nat.reduceAdd, Nat.reduceSub, Nat.reducePow, Nat.reduceMul, Nat.reduceEqDiff, Nat.reduceLT, Nat.reduceLeDiff, Int.reduceToNat, Int.reduceLT, Int.reduceLE, Int.reduceEq, Int.reduceNeg, Int.reduceAdd, Int.reduceSub, Int.reduceMul]
      refine ⟨hn, _, _, oa.step (os.set n _) _, by rw [List.length_set]; exact hol, fun i b hb => ?_, fun i b' hi hb' => ?_, junk rfl⟩
      · obtain ⟨q, q1, q2⟩ := hcell i b hb
        exact ⟨q, q1, q2.step (by omega) _ _⟩
      · have keep : ∀ (i : Nat) (x : Blk), h.length + 7 ≤ i → (H ++ L)[i]? = some x → (H.set (h.length + 2) (.box (os.set n (.own rr 1))) ++ L)[i]? = some x := by
          intro i x h1 h2
          rw [← hs, List.getElem?_set_ne (by omega)]; exact h2
        obtain rfl | hlt : i = n ∨ i < n := by omega
        · rw [hb] at hb'
          injection hb' with hb'
          subst hb'
          exact ⟨rr, List.getElem?_set_self (by omega), by omega, keep _ _ (by omega) hg⟩
        · obtain ⟨r2, h1, h2, h3⟩ := hout i b' hlt hb'
          exact ⟨r2, by rw [List.getElem?_set_ne (by omega)]; exact h1, h2, keep _ _ h2 (RowsAt.get (h := h) h3 L)⟩
end Go.Proofs

/-
  Own work. The document's Why.
-/
namespace Go.Proofs
open Go Go.Ytodlpcoffmnmbaa
set_option linter.unusedVariables false
set_option linter.unusedSimpArgs false
set_option maxRecDepth 10000

/-! ### weighbridge/weighbridgeref23.Why, params 2 -/
def c15r0 : List AStm := [.op (some 2) none (.box (.t 0)),
    .op (some 3) none (.box (.t 1)),
    .op (some 4) none (.mv (.c (.int .i64 0)))]
def c15r1 : List AStm := [.op (some 7) none (.load (some 43) (.t 2)),
    .call (some 8) none (.c (.fn (.func 53) [] [])) [(.t 7)],
    .op (some 9) none (.bin .neq (.t 8) (.c (.int .i64 0)))]
def c15r2 : List AStm := [.op (some 4) none (.mv (.c (.int .i64 (-2))))]
def c15r3 : List AStm := [.op (some 10) none (.load (some 43) (.t 2)),
    .op (some 11) none (.bslice 43 [(.int .i64 0), (.int .u8 0), (.int .u8 0), (.int .u8 0), (.int .u8 0), (.int .u8 0), (.int .u8 0), (.int .u8 0), (.int .u8 0), (.int .u8 0), (.int .u8 0), (.int .u8 0), (.int .u8 0), (.int .u8 0), (.int .u8 0), (.int .u8 0), (.int .u8 0), (.int .i64 0), (.int .i64 0), (.int .u8 0), (.int .u8 0), (.int .u8 0), (.int .u8 0), (.int .u8 0), (.int .u8 0), (.int .u8 0), (.int .u8 0), (.int .u8 0), (.int .u8 0), (.int .u8 0), (.int .u8 0), (.int .u8 0), (.int .u8 0), (.int .u8 0), (.int .u8 0), (.int .i64 0), (.int .i64 0), (.int .i64 0), (.int .i64 0), (.int .i64 0), (.int .i64 0), (.int .i64 0), (.int .i64 0)] 1 [(0, 43, (.t 10))]),
    .op (some 12) none (.load (some 38) (.t 3)),
    .call (some 13) none (.c (.fn (.func 54) [] [])) [(.t 11), (.t 12)],
    .op (some 5) none (.alloc (List.replicate 6 .nils)),
    .op none none (.store 6 (.t 5) (.t 13))]
def c15r4 : List AStm := [.op (some 6) none (.mv (.c (.int .i64 0)))]
def c15r5 : List AStm := [.op (some 14) none (.mv (.t 6)),
    .op (some 15) none (.bin .lss (.t 14) (.c (.int .i64 6)))]
def c15r6 : List AStm := [.op (some 18) none (.mv (.t 6)),
    .op (some 19) none (.ixa 6 1 (.t 5) (.t 18)),
    .op (some 20) none (.load none (.t 19)),
    .call (some 21) none (.c (.fn (.func 55) [] [])) [(.t 20), (.c (.int .i64 0))],
    .op (some 22) none (.un .not (.t 21))]
def c15r7 : List AStm := [.op (some 23) none (.mv (.t 6)),
    .op (some 4) none (.mv (.t 23))]
def c15r8 : List AStm := [.op (some 16) none (.mv (.t 6)),
    .op (some 17) none (.bin .add (.t 16) (.c (.int .i64 1))),
    .op (some 6) none (.mv (.t 17))]
def c15l9 : AC := .seq (.seq (.reg c15r5) (.cond (.t 15) (.skip) (.exit 0))) (.seq (.block 1 (.seq (.reg c15r6) (.cond (.t 22) (.seq (.reg c15r7) (.ret)) (.skip)))) (.reg c15r8))
def c15r10 : List AStm := [.op (some 4) none (.mv (.c (.int .i64 (-1))))]
def c15 : CF := ⟨.seq (.reg c15r0) (.seq (.seq (.reg c15r1) (.cond (.t 9) (.seq (.reg c15r2) (.ret)) (.skip))) (.seq (.reg c15r3) (.seq (.seq (.reg c15r4) (.block 0 (.loop c15l9))) (.seq (.reg c15r10) (.ret))))), [.tmp 4], 24⟩
theorem cf15 : cfun Try.prog 15 = some c15 := by kernel_rfl



theorem hasR_one (b : Bool) : hasR [if b then 1 else 0] 0 = b := by cases b <;> rfl
theorem rwhy_fc (h : Heap) (r : Ru) (ok : r.Ok) (k : Ky) (kok : k.Ok) : FC Try.prog 15 [.agg (ru r), .agg (ky k)] h fun d h' => d = .int .i64 (whyF r k) ∧ h' = h := by
  have lr := ru_len ok
  have lk := ky_len kok
  have r1 := ru_one ok
  have rt := ru_take ok
  have kt := ky_take kok
  have k1 := ky_one kok
  refine FC.goes cf15 ?_; simp only [c15]; simp only [List.length_cons, List.length_nil, Nat.reduceAdd, Nat.reduceSub, List.replicate_succ, List.replicate_zero, List.cons_append, List.nil_append]
  simp (disch := first | omega | (simp only [List.length_append, List.length_cons, List.length_nil]; omega)) only [c15r0, c15r1, c15r2, c15r3, c15r4, c15r5, c15r6, c15r7, c15r8, c15l9, c15r10, lr, r1, rt, lk, k1, go_sem, ↓reduceIte, reduceCtorEq, Nat.reduceAdd, Nat.reduceSub, Nat.reducePow, Nat.reduceMul, Nat.reduceEqDiff, Nat.reduceLT, Nat.reduceLeDiff, Int.reduceToNat, Int.reduceLT, Int.reduceLE, Int.reduceEq, Int.reduceNeg, Int.reduceAdd, Int.reduceSub, Int.reduceMul]
  refine gfc_same (rcheck17_fc _ r ok) ?_
  by_cases hc : ruChk r = 0
  · have e0 : decide (ruChk r = 0) = true := decide_eq_true hc
    have e : whyF r k = firstNot (whyL r k) 0 := by rw [whyF, if_pos hc]
    rw [e]
    simp (disch := first | omega | (simp only [List.length_append, List.length_cons, List.length_nil]; omega)) only [e0, lr, lk, rt, kt, go_sem, ↓reduceIte, reduceCtorEq, Nat.reduceAdd, Nat.reduceSub, Nat.reducePow, Nat.reduceMul, Nat.reduceEqDiff, Nat.reduceLT, Nat.reduceLeDiff, Int.reduceToNat, Int.reduceLT, Int.reduceLE, Int.reduceEq, Int.reduceNeg, Int.reduceAdd, Int.reduceSub, Int.reduceMul]
    rw [ru_fill1 ok rfl]
    simp (disch := first | omega | (simp only [List.length_append, List.length_cons, List.length_nil]; omega)) only [lk, kt, go_sem, ↓reduceIte, reduceCtorEq, Nat.reduceAdd, Nat.reduceSub, Nat.reducePow, Nat.reduceMul, Nat.reduceEqDiff, Nat.reduceLT, Nat.reduceLeDiff, Int.reduceToNat, Int.reduceLT, Int.reduceLE, Int.reduceEq, Int.reduceNeg, Int.reduceAdd, Int.reduceSub, Int.reduceMul]
    refine gfc_of (rows1_fc _ r ok k kok _ (rus_one ok (by simp (disch := first | omega | (simp only [List.length_append, List.length_cons, List.length_nil]; omega)) only [go_sem, fill_c, ↓reduceIte, reduceCtorEq, Nat.reduceAdd, Nat.reduceSub, Nat.reducePow, Nat.reduceMul, Nat.reduceEqDiff, Nat.reduceLT, Nat.reduceLeDiff, Int.reduceToNat, Int.reduceLT, Int.reduceLE, Int.reduceEq, Int.reduceNeg, Int.reduceAdd, Int.reduceSub, Int.reduceMul]))) ?_
    rintro d h' ⟨⟨L, rfl⟩, cs, rfl, hcl, hcell⟩
    have hat : ∀ i, i < 6 → ∃ b : Bool, (whyL r k)[i]? = some b ∧ (whyL r k).drop i = b :: (whyL r k).drop (i + 1) := by
      intro i hi
      have : i < (whyL r k).length := by simp [whyL]; omega
      exact ⟨_, List.getElem?_eq_getElem this, List.drop_eq_getElem_cons this⟩
    have hone : cs.all D.one = true := by
      rw [List.all_eq_true]
      intro y hy
      obtain ⟨i, hi⟩ := List.mem_iff_getElem?.1 hy
      have hi6 : i < 6 := by have := (List.getElem?_eq_some_iff.1 hi).1; omega
      obtain ⟨b, hb, _⟩ := hat i hi6
      obtain ⟨rr, h1, _⟩ := hcell i b hb
      rw [hi] at h1
      injection h1 with h1
      subst h1; rfl
    have tcs : cs.take 6 = cs := List.take_of_length_le (by omega)
    generalize hG : h ++ [.box (ru r), .box (ky k), .grow 43 (ru r) 1] ++ L = G at hcell ⊢
    simp (disch := first | omega | (simp only [List.length_append, List.length_cons, List.length_nil]; omega)) only [hone, hcl, tcs, splice_all, go_sem, fill_c, ↓reduceIte, reduceCtorEq, Nat.reduceAdd, Nat.reduceSub, Nat.reducePow, Nat.reduceMul, Nat.reduceEqDiff, Nat.reduceLT, Nat.reduceLeDiff, Int.reduceToNat, Int.reduceLT, Int.reduceLE, Int.reduceEq, Int.reduceNeg, Int.reduceAdd, Int.reduceSub, Int.reduceMul]
    refine loop_to 6 (fun n st => firstNot (whyL r k) 0 = firstNot ((whyL r k).drop n) (n : Int) ∧ ∃ (j : Nat → D), st = ⟨(j 0 :: j 1 :: j 2 :: j 3 :: j 4 :: .ref G.length 0 :: .int .i64 (n : Int) :: j 7 :: j 8 :: j 9 :: j 10 :: j 11 :: j 12 :: j 13 :: j 14 :: j 15 :: j 16 :: j 17 :: j 18 :: j 19 :: j 20 :: j 21 :: j 22 :: j 23 :: []), G ++ [.box cs]⟩) ⟨rfl, junk rfl⟩ ?_
    rintro n st hn ⟨hall, j, rfl⟩
    rw [hall]
    obtain rfl | hn : n = 6 ∨ n < 6 := by omega
    · simp (disch := first | omega | (simp only [List.length_append, List.length_cons, List.length_nil]; omega)) only [c15r0, c15r1, c15r2, c15r3, c15r4, c15r5, c15r6, c15r7, c15r8, c15l9, c15r10, go_sem, fill_c, ↓reduceIte, reduceCtorEq, Nat.reduceAdd, Nat.reduceSub, Nat.reducePow, Nat.reduceMul, Nat.reduceEqDiff, Nat.reduceLT, Nat.reduceLeDiff, Int.reduceToNat, Int.reduceLT, Int.reduceLE, Int.reduceEq, Int.reduceNeg, Int.reduceAdd, Int.reduceSub, Int.reduceMul]
      rw [← hG, List.append_assoc, List.append_assoc]
      exact FinOk.drop (.inl rfl) (by simp [underL, underD]) ⟨rfl, rfl⟩
    · have hn' : (n : Int) < 6 := by omega
      obtain ⟨b, hb, hd⟩ := hat n hn
      obtain ⟨rr, h1, h2⟩ := hcell n b hb
      have h1' : (List.drop n cs)[0]? = some (.own rr 1) := by rw [List.getElem?_drop]; exact h1
      have e5 : IntKind.i64.wrap ((n : Int) + 1) = ((n + 1 : Nat) : Int) := by rw [w_i64 (by omega) (by omega)]; omega
      have h3 : (G ++ [.box cs])[rr]? = some (.grow 1 [.int .u64 (if b then 1 else 0)] 1) := RowsAt.get (h := h) h2 _
      have hsl : SlOf (G ++ [.box cs]) 1 (.own rr 1) (u64s [if b then 1 else 0]) [if b then 1 else 0].length := by
        have := own_of h3 rfl
        cases b <;> exact this
      rw [hd] at hall ⊢
      simp (disch := first | omega | (simp only [List.length_append, List.length_cons, List.length_nil]; omega)) only [c15r0, c15r1, c15r2, c15r3, c15r4, c15r5, c15r6, c15r7, c15r8, c15l9, c15r10, hn', h1', e5, go_sem, fill_c, ↓reduceIte, reduceCtorEq, Nat.reduceAdd, Nat.reduceSub, Nat.reducePow, Nat.reduceMul, Nat.reduceEqDiff, Nat.reduceLT, Nat.reduceLeDiff, Int.reduceToNat, Int.reduceLT, Int.reduceLE, Int.reduceEq, Int.reduceNeg, Int.reduceAdd, Int.reduceSub, Int.reduceMul]
      refine gfc_same (hasRef_fc _ _ _ hsl (by simp) (by cases b <;> simp) 0 (by omega) (by omega)) ?_
      rw [hasR_one]
      cases b with
      | true =>
        simp (disch := first | omega | (simp only [List.length_append, List.length_cons, List.length_nil]; omega)) only [c15r0, c15r1, c15r2, c15r3, c15r4, c15r5, c15r6, c15r7, c15r8, c15l9, c15r10, hn', h1', e5, go_sem, fill_c, ↓reduceIte, reduceCtorEq, Nat.reduceAdd, Nat.reduceSub, Nat.reducePow, Nat.reduceMul, Nat.reduceEqDiff, Nat.reduceLT, Nat.reduceLeDiff, Int.reduceToNat, Int.reduceLT, Int.reduceLE, Int.reduceEq, Int.reduceNeg, Int.reduceAdd, Int.reduceSub, Int.reduceMul]
        exact ⟨hn, rfl, junk rfl⟩
      | false =>
        simp (disch := first | omega | (simp only [List.length_append, List.length_cons, List.length_nil]; omega)) only [c15r0, c15r1, c15r2, c15r3, c15r4, c15r5, c15r6, c15r7, c15r8, c15l9, c15r10, hn', h1', e5, go_sem, fill_c, ↓reduceIte, reduceCtorEq, Nat.reduceAdd, Nat.reduceSub, Nat.reducePow, Nat.reduceMul, Nat.reduceEqDiff, Nat.reduceLT, Nat.reduceLeDiff, Int.reduceToNat, Int.reduceLT, Int.reduceLE, Int.reduceEq, Int.reduceNeg, Int.reduceAdd, Int.reduceSub, Int.reduceMul]
        rw [← hG, List.append_assoc, List.append_assoc]
        exact FinOk.drop (.inl rfl) (by simp [underL, underD]) ⟨rfl, rfl⟩
  · have e : whyF r k = -2 := by rw [whyF, if_neg hc]
    rw [e]
    simp (disch := first | omega | (simp only [List.length_append, List.length_cons, List.length_nil]; omega)) only [hc, go_sem, fill_c, ↓reduceIte, reduceCtorEq, Nat.reduceAdd, Nat.reduceSub, Nat.reducePow, Nat.reduceMul, Nat.reduceEqDiff, Nat.reduceLT, Nat.reduceLeDiff, Int.reduceToNat, Int.reduceLT, Int.reduceLE, Int.reduceEq, Int.reduceNeg, Int.reduceAdd, Int.reduceSub, Int.reduceMul]
    exact FinOk.drop (.inl rfl) (by simp [underL, underD]) ⟨rfl, rfl⟩
end Go.Proofs

