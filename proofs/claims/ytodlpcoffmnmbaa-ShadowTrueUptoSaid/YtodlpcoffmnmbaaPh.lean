/-
  Own work. Make, Halves and Last, the program's and the document's.
-/
import Derived.Test.YtodlpcoffmnmbaaPd
import Derived.Test.YtodlpcoffmnmbaaPf
import Derived.Test.YtodlpcoffmnmbaaPe
namespace Go.Proofs
open Go Go.Ytodlpcoffmnmbaa
set_option linter.unusedVariables false
set_option linter.unusedSimpArgs false
set_option maxRecDepth 10000

/-! ### weighbridge/prefix.Make, params 3 -/
def c17r0 : List AStm := [.op (some 4) none (.box (.t 1)),
    .op (some 6) none (.alloc [(.int .i64 0), (.int .u8 0), (.int .u8 0), (.int .u8 0), (.int .u8 0), (.int .u8 0), (.int .u8 0), (.int .u8 0), (.int .u8 0), (.int .u8 0), (.int .u8 0), (.int .u8 0), (.int .u8 0), (.int .u8 0), (.int .u8 0), (.int .u8 0), (.int .u8 0), (.int .i64 0)]),
    .op (some 7) none (.mv (.c (.int .i64 0)))]
def c17r1 : List AStm := [.op (some 9) none (.mv (.t 0)),
    .op (some 10) none (.mv (.t 2)),
    .call (some 11) none (.c (.fn (.func 56) [] [])) [(.t 9), (.t 10)],
    .op (some 8) none (.mv (.t 11))]
def c17r2 : List AStm := [.op (some 12) none (.mv (.t 8)),
    .op (some 13) none (.bin .neq (.t 12) (.c (.int .i64 0)))]
def c17r3 : List AStm := [.op (some 14) none (.build [(.int .i64 0), (.int .u8 0), (.int .u8 0), (.int .u8 0), (.int .u8 0), (.int .u8 0), (.int .u8 0), (.int .u8 0), (.int .u8 0), (.int .u8 0), (.int .u8 0), (.int .u8 0), (.int .u8 0), (.int .u8 0), (.int .u8 0), (.int .u8 0), (.int .u8 0), (.int .i64 0)] []),
    .op (some 15) none (.mv (.t 8)),
    .op none none (.store 18 (.t 6) (.t 14)),
    .op (some 7) none (.mv (.t 15))]
def c17r4 : List AStm := [.op (some 16) none (.mv (.t 0)),
    .op (some 17) none (.load (some 16) (.t 4)),
    .op (some 18) none (.mv (.t 2)),
    .call (some 19) none (.c (.fn (.func 57) [] [])) [(.t 17), (.t 18)],
    .op (some 20) none (.mv (.t 2)),
    .op (some 21) none (.build [(.int .i64 0), (.int .u8 0), (.int .u8 0), (.int .u8 0), (.int .u8 0), (.int .u8 0), (.int .u8 0), (.int .u8 0), (.int .u8 0), (.int .u8 0), (.int .u8 0), (.int .u8 0), (.int .u8 0), (.int .u8 0), (.int .u8 0), (.int .u8 0), (.int .u8 0), (.int .i64 0)] [(0, 1, (.t 16)), (1, 16, (.t 19)), (17, 1, (.t 20))]),
    .op none none (.store 18 (.t 6) (.t 21)),
    .op (some 7) none (.mv (.c (.int .i64 0)))]
def c17 : CF := ⟨.seq (.reg c17r0) (.seq (.seq (.reg c17r1) (.seq (.reg c17r2) (.cond (.t 13) (.seq (.reg c17r3) (.ret)) (.skip)))) (.seq (.reg c17r4) (.ret))), [.cell 6 (some 18), .tmp 7], 22⟩
theorem cf17 : cfun Try.prog 17 = some c17 := by kernel_rfl

/-! ### weighbridge/prefix.Halves, params 1 -/
def c19r0 : List AStm := [.op (some 1) none (.box (.t 0)),
    .op (some 2) none (.alloc [(.int .i64 0), (.int .u8 0), (.int .u8 0), (.int .u8 0), (.int .u8 0), (.int .u8 0), (.int .u8 0), (.int .u8 0), (.int .u8 0), (.int .u8 0), (.int .u8 0), (.int .u8 0), (.int .u8 0), (.int .u8 0), (.int .u8 0), (.int .u8 0), (.int .u8 0), (.int .i64 0)]),
    .op (some 3) none (.alloc [(.int .i64 0), (.int .u8 0), (.int .u8 0), (.int .u8 0), (.int .u8 0), (.int .u8 0), (.int .u8 0), (.int .u8 0), (.int .u8 0), (.int .u8 0), (.int .u8 0), (.int .u8 0), (.int .u8 0), (.int .u8 0), (.int .u8 0), (.int .u8 0), (.int .u8 0), (.int .i64 0)]),
    .op (some 4) none (.mv (.c (.bool false)))]
def c19r1 : List AStm := [.op (some 12) none (.faddr 0 (.t 1)),
    .op (some 13) none (.load none (.t 12)),
    .call (some 14) none (.c (.fn (.func 60) [] [])) [(.t 13)],
    .op (some 11) none (.mv (.t 14)),
    .op (some 15) none (.ext (.t 11) 0),
    .op (some 16) none (.ext (.t 11) 1),
    .op (some 5) none (.mv (.t 15)),
    .op (some 6) none (.mv (.t 16))]
def c19r2 : List AStm := [.op (some 17) none (.load (some 18) (.t 1)),
    .call (some 18) none (.c (.fn (.func 61) [] [])) [(.t 17)],
    .op (some 19) none (.un .not (.t 18)),
    .op (some 20) none (.mv (.t 19)),
    .op (some 21) (some (20, false)) (.faddr 17 (.t 1)),
    .op (some 22) (some (20, false)) (.load none (.t 21)),
    .op (some 23) (some (20, false)) (.mv (.t 5)),
    .op (some 24) (some (20, false)) (.bin .eql (.t 22) (.t 23)),
    .op (some 25) none (.pick (.t 20) (.c (.bool true)) (.t 24))]
def c19r3 : List AStm := [.op (some 26) none (.build [(.int .i64 0), (.int .u8 0), (.int .u8 0), (.int .u8 0), (.int .u8 0), (.int .u8 0), (.int .u8 0), (.int .u8 0), (.int .u8 0), (.int .u8 0), (.int .u8 0), (.int .u8 0), (.int .u8 0), (.int .u8 0), (.int .u8 0), (.int .u8 0), (.int .u8 0), (.int .i64 0)] []),
    .op (some 27) none (.build [(.int .i64 0), (.int .u8 0), (.int .u8 0), (.int .u8 0), (.int .u8 0), (.int .u8 0), (.int .u8 0), (.int .u8 0), (.int .u8 0), (.int .u8 0), (.int .u8 0), (.int .u8 0), (.int .u8 0), (.int .u8 0), (.int .u8 0), (.int .u8 0), (.int .u8 0), (.int .i64 0)] []),
    .op none none (.store 18 (.t 2) (.t 26)),
    .op none none (.store 18 (.t 3) (.t 27)),
    .op (some 4) none (.mv (.c (.bool false)))]
def c19r4 : List AStm := [.op (some 28) none (.load (some 18) (.t 1)),
    .op (some 29) none (.load (some 18) (.t 1)),
    .op (some 7) none (.alloc [(.int .i64 0), (.int .u8 0), (.int .u8 0), (.int .u8 0), (.int .u8 0), (.int .u8 0), (.int .u8 0), (.int .u8 0), (.int .u8 0), (.int .u8 0), (.int .u8 0), (.int .u8 0), (.int .u8 0), (.int .u8 0), (.int .u8 0), (.int .u8 0), (.int .u8 0), (.int .i64 0)]),
    .op (some 8) none (.alloc [(.int .i64 0), (.int .u8 0), (.int .u8 0), (.int .u8 0), (.int .u8 0), (.int .u8 0), (.int .u8 0), (.int .u8 0), (.int .u8 0), (.int .u8 0), (.int .u8 0), (.int .u8 0), (.int .u8 0), (.int .u8 0), (.int .u8 0), (.int .u8 0), (.int .u8 0), (.int .i64 0)]),
    .op none none (.store 18 (.t 7) (.t 28)),
    .chk 29 none (.load (some 18) (.t 1)),
    .op none none (.store 18 (.t 8) (.t 29))]
def c19r5 : List AStm := []
def c19r6 : List AStm := [.op (some 30) none (.faddr 17 (.t 1)),
    .op (some 31) none (.load none (.t 30)),
    .op (some 32) none (.bin .quo (.t 31) (.c (.int .i64 8))),
    .op (some 33) none (.faddr 1 (.t 8)),
    .op (some 34) none (.ixa 16 1 (.t 33) (.t 32)),
    .op (some 35) none (.load none (.t 34)),
    .op (some 36) none (.faddr 17 (.t 1)),
    .op (some 37) none (.load none (.t 36)),
    .op (some 38) none (.bin .rem (.t 37) (.c (.int .i64 8))),
    .op (some 39) none (.conv .u64 (.t 38)),
    .op (some 40) none (.bin .shr (.c (.int .u8 128)) (.t 39)),
    .op (some 41) none (.bin .or (.t 35) (.t 40)),
    .op (some 42) none (.faddr 1 (.t 8)),
    .op (some 43) none (.ixa 16 1 (.t 42) (.t 32)),
    .op none none (.store 1 (.t 43) (.t 41))]
def c19r7 : List AStm := []
def c19r8 : List AStm := [.op (some 44) none (.build [.nilp, .nilp] [(0, 1, (.t 7)), (1, 1, (.t 8))]),
    .op (some 45) none (.mv (.c (.int .i64 0)))]
def c19r9 : List AStm := [.op (some 46) none (.bin .lss (.t 45) (.c (.int .i64 2)))]
def c19r10 : List AStm := [.op (some 47) none (.ixv 2 1 none (.t 44) (.t 45)),
    .op (some 10) none (.mv (.t 47))]
def c19r11 : List AStm := [.op (some 48) none (.mv (.t 10)),
    .op (some 49) none (.nilchk (.t 48)),
    .op (some 50) none (.faddr 17 (.t 49)),
    .op (some 51) none (.load none (.t 50)),
    .op (some 52) none (.bin .add (.t 51) (.c (.int .i64 1))),
    .op (some 53) none (.nilchk (.t 48)),
    .op (some 54) none (.faddr 17 (.t 53)),
    .op none none (.store 1 (.t 54) (.t 52))]
def c19r12 : List AStm := [.op (some 55) none (.bin .add (.t 45) (.c (.int .i64 1))),
    .op (some 45) none (.mv (.t 55))]
def c19l13 : AC := .seq (.reg c19r9) (.seq (.cond (.t 46) (.skip) (.exit 0)) (.seq (.block 1 (.seq (.reg c19r10) (.reg c19r11))) (.reg c19r12)))
def c19r14 : List AStm := [.op (some 56) none (.load (some 18) (.t 7)),
    .op (some 57) none (.load (some 18) (.t 8)),
    .op none none (.store 18 (.t 2) (.t 56)),
    .chk 57 none (.load (some 18) (.t 8)),
    .op none none (.store 18 (.t 3) (.t 57)),
    .op (some 4) none (.mv (.c (.bool true)))]
def c19r15 : List AStm := []
def c19 : CF := ⟨.seq (.reg c19r0) (.seq (.reg c19r1) (.seq (.seq (.reg c19r2) (.cond (.t 25) (.seq (.reg c19r3) (.ret)) (.skip))) (.seq (.dreg c19r4 c19r5) (.seq (.dreg c19r6 c19r7) (.seq (.seq (.reg c19r8) (.block 0 (.loop c19l13))) (.seq (.dreg c19r14 c19r15) (.ret))))))), [.cell 2 (some 18), .cell 3 (some 18), .tmp 4], 58⟩
theorem cf19 : cfun Try.prog 19 = some c19 := by kernel_rfl

/-! ### weighbridge/weighbridgeref07.Halves, params 1 -/
def c20r0 : List AStm := [.op (some 1) none (.box (.t 0)),
    .op (some 2) none (.alloc [(.int .i64 0), (.int .u8 0), (.int .u8 0), (.int .u8 0), (.int .u8 0), (.int .u8 0), (.int .u8 0), (.int .u8 0), (.int .u8 0), (.int .u8 0), (.int .u8 0), (.int .u8 0), (.int .u8 0), (.int .u8 0), (.int .u8 0), (.int .u8 0), (.int .u8 0), (.int .i64 0)]),
    .op (some 3) none (.alloc [(.int .i64 0), (.int .u8 0), (.int .u8 0), (.int .u8 0), (.int .u8 0), (.int .u8 0), (.int .u8 0), (.int .u8 0), (.int .u8 0), (.int .u8 0), (.int .u8 0), (.int .u8 0), (.int .u8 0), (.int .u8 0), (.int .u8 0), (.int .u8 0), (.int .u8 0), (.int .i64 0)]),
    .op (some 4) none (.mv (.c (.bool false)))]
def c20r1 : List AStm := []
def c20r2 : List AStm := [.op (some 7) none (.load (some 18) (.t 1)),
    .callG (some 8) none (.c (.fn (.func 23) [] [])) [(.t 7)],
    .op (some 9) none (.bin .neq (.t 8) (.c (.int .i64 0))),
    .op (some 10) none (.mv (.t 9)),
    .op (some 11) (some (10, false)) (.faddr 17 (.t 1)),
    .op (some 12) (some (10, false)) (.load none (.t 11)),
    .op (some 13) (some (10, false)) (.faddr 0 (.t 1)),
    .op (some 14) (some (10, false)) (.load none (.t 13)),
    .callG (some 15) (some (10, false)) (.c (.fn (.func 58) [] [])) [(.t 14)],
    .op (some 16) (some (10, false)) (.bin .eql (.t 12) (.t 15)),
    .op (some 17) none (.pick (.t 10) (.c (.bool true)) (.t 16))]
def c20r3 : List AStm := [.op (some 18) none (.build [(.int .i64 0), (.int .u8 0), (.int .u8 0), (.int .u8 0), (.int .u8 0), (.int .u8 0), (.int .u8 0), (.int .u8 0), (.int .u8 0), (.int .u8 0), (.int .u8 0), (.int .u8 0), (.int .u8 0), (.int .u8 0), (.int .u8 0), (.int .u8 0), (.int .u8 0), (.int .i64 0)] []),
    .op (some 19) none (.build [(.int .i64 0), (.int .u8 0), (.int .u8 0), (.int .u8 0), (.int .u8 0), (.int .u8 0), (.int .u8 0), (.int .u8 0), (.int .u8 0), (.int .u8 0), (.int .u8 0), (.int .u8 0), (.int .u8 0), (.int .u8 0), (.int .u8 0), (.int .u8 0), (.int .u8 0), (.int .i64 0)] []),
    .op none none (.store 18 (.t 2) (.t 18)),
    .op none none (.store 18 (.t 3) (.t 19)),
    .op (some 4) none (.mv (.c (.bool false)))]
def c20r4 : List AStm := [.op (some 20) none (.load (some 18) (.t 1)),
    .op (some 21) none (.load (some 18) (.t 1)),
    .op (some 5) none (.alloc [(.int .i64 0), (.int .u8 0), (.int .u8 0), (.int .u8 0), (.int .u8 0), (.int .u8 0), (.int .u8 0), (.int .u8 0), (.int .u8 0), (.int .u8 0), (.int .u8 0), (.int .u8 0), (.int .u8 0), (.int .u8 0), (.int .u8 0), (.int .u8 0), (.int .u8 0), (.int .i64 0)]),
    .op (some 6) none (.alloc [(.int .i64 0), (.int .u8 0), (.int .u8 0), (.int .u8 0), (.int .u8 0), (.int .u8 0), (.int .u8 0), (.int .u8 0), (.int .u8 0), (.int .u8 0), (.int .u8 0), (.int .u8 0), (.int .u8 0), (.int .u8 0), (.int .u8 0), (.int .u8 0), (.int .u8 0), (.int .i64 0)]),
    .op none none (.store 18 (.t 5) (.t 20)),
    .chk 21 none (.load (some 18) (.t 1)),
    .op none none (.store 18 (.t 6) (.t 21))]
def c20r5 : List AStm := []
def c20r6 : List AStm := [.op (some 22) none (.faddr 17 (.t 1)),
    .op (some 23) none (.load none (.t 22)),
    .op (some 24) none (.bin .add (.t 23) (.c (.int .i64 1))),
    .op (some 25) none (.faddr 17 (.t 1)),
    .op (some 26) none (.load none (.t 25)),
    .op (some 27) none (.bin .add (.t 26) (.c (.int .i64 1))),
    .op (some 28) none (.faddr 17 (.t 5)),
    .op none none (.store 1 (.t 28) (.t 24)),
    .chk 25 none (.faddr 17 (.t 1)),
    .chk 26 none (.load none (.t 25)),
    .op (some 29) none (.faddr 17 (.t 6)),
    .op none none (.store 1 (.t 29) (.t 27))]
def c20r7 : List AStm := []
def c20r8 : List AStm := [.op (some 30) none (.faddr 1 (.t 1)),
    .op (some 31) none (.load (some 16) (.t 30)),
    .op (some 32) none (.faddr 17 (.t 1)),
    .op (some 33) none (.load none (.t 32)),
    .call (some 34) none (.c (.fn (.func 62) [] [])) [(.t 31), (.t 33)],
    .op (some 35) none (.faddr 1 (.t 6)),
    .op none none (.store 16 (.t 35) (.t 34))]
def c20r9 : List AStm := [.op (some 36) none (.load (some 18) (.t 5)),
    .op (some 37) none (.load (some 18) (.t 6)),
    .op none none (.store 18 (.t 2) (.t 36)),
    .chk 37 none (.load (some 18) (.t 6)),
    .op none none (.store 18 (.t 3) (.t 37)),
    .op (some 4) none (.mv (.c (.bool true)))]
def c20r10 : List AStm := []
def c20 : CF := ⟨.seq (.reg c20r0) (.seq (.seq (.dreg c20r1 c20r2) (.cond (.t 17) (.seq (.reg c20r3) (.ret)) (.skip))) (.seq (.dreg c20r4 c20r5) (.seq (.dreg c20r6 c20r7) (.seq (.reg c20r8) (.seq (.dreg c20r9 c20r10) (.ret)))))), [.cell 2 (some 18), .cell 3 (some 18), .tmp 4], 38⟩
theorem cf20 : cfun Try.prog 20 = some c20 := by kernel_rfl

/-! ### weighbridge/weighbridgeref07.Last, params 1 -/
def c25r0 : List AStm := [.op (some 1) none (.box (.t 0)),
    .op (some 2) none (.alloc (List.replicate 16 (.int .u8 0)))]
def c25r1 : List AStm := [.op (some 5) none (.load (some 18) (.t 1)),
    .call (some 6) none (.c (.fn (.func 23) [] [])) [(.t 5)],
    .op (some 7) none (.bin .neq (.t 6) (.c (.int .i64 0)))]
def c25r2 : List AStm := [.op (some 8) none (.build (List.replicate 16 (.int .u8 0)) []),
    .op none none (.store 16 (.t 2) (.t 8))]
def c25r3 : List AStm := [.op (some 9) none (.faddr 1 (.t 1)),
    .op (some 10) none (.load (some 16) (.t 9)),
    .op (some 3) none (.alloc (List.replicate 16 (.int .u8 0))),
    .op none none (.store 16 (.t 3) (.t 10))]
def c25r4 : List AStm := [.op (some 11) none (.faddr 17 (.t 1)),
    .op (some 12) none (.load none (.t 11)),
    .op (some 4) none (.mv (.t 12))]
def c25r5 : List AStm := [.op (some 13) none (.mv (.t 4)),
    .op (some 14) none (.faddr 0 (.t 1)),
    .op (some 15) none (.load none (.t 14)),
    .call (some 16) none (.c (.fn (.func 58) [] [])) [(.t 15)],
    .op (some 17) none (.bin .lss (.t 13) (.t 16))]
def c25r6 : List AStm := [.op (some 20) none (.load (some 16) (.t 3)),
    .op (some 21) none (.mv (.t 4)),
    .call (some 22) none (.c (.fn (.func 62) [] [])) [(.t 20), (.t 21)],
    .op none none (.store 16 (.t 3) (.t 22))]
def c25r7 : List AStm := [.op (some 18) none (.mv (.t 4)),
    .op (some 19) none (.bin .add (.t 18) (.c (.int .i64 1))),
    .op (some 4) none (.mv (.t 19))]
def c25l8 : AC := .seq (.seq (.reg c25r5) (.cond (.t 17) (.skip) (.exit 0))) (.seq (.block 1 (.reg c25r6)) (.reg c25r7))
def c25r9 : List AStm := [.op (some 23) none (.load (some 16) (.t 3)),
    .op none none (.store 16 (.t 2) (.t 23))]
def c25 : CF := ⟨.seq (.reg c25r0) (.seq (.seq (.reg c25r1) (.cond (.t 7) (.seq (.reg c25r2) (.ret)) (.skip))) (.seq (.reg c25r3) (.seq (.seq (.reg c25r4) (.block 0 (.loop c25l8))) (.seq (.reg c25r9) (.ret))))), [.cell 2 (some 16)], 24⟩
theorem cf25 : cfun Try.prog 25 = some c25 := by kernel_rfl



theorem pc_zero : pc 0 (zeros 16) 0 = [.int .i64 0, .int .u8 0, .int .u8 0, .int .u8 0, .int .u8 0, .int .u8 0, .int .u8 0, .int .u8 0, .int .u8 0, .int .u8 0, .int .u8 0, .int .u8 0, .int .u8 0, .int .u8 0, .int .u8 0, .int .u8 0, .int .u8 0, .int .i64 0] := rfl
theorem zeros_len (n : Nat) : (zeros n).length = n := by simp [zeros]
theorem pc_over {v n w m : Int} {a b : List UInt8} (hb : b.length = 16) (ha : a.length = 16) : splice (pc w b m) 0 (pc v a n) = pc v a n := splice_all (by rw [pc_len hb, pc_len ha])
theorem pc_fill {v n : Int} {a : List UInt8} (ha : a.length = 16) : fillD (pc 0 (zeros 16) 0) [(0, 1, .int .i64 v), (1, 16, .agg (ofBytes a)), (17, 1, .int .i64 n)] = some (pc v a n) := by
  have hl : (ofBytes a).length = 16 := by rw [ofBytes_length, ha]
  have ho := ofBytes_one a
  rw [fillD, if_pos ⟨rfl, rfl, by rw [pc_len (zeros_len 16)]; omega⟩]
  have e1 : splice (pc 0 (zeros 16) 0) 0 (vcells (.int .i64 v)) = pc v (zeros 16) 0 := rfl
  rw [e1, fillD, if_pos ⟨by simpa [laid] using ho, by simpa [vcells] using hl, by rw [pc_len (zeros_len 16)]; omega⟩]
  have e2 : splice (pc v (zeros 16) 0) 1 (vcells (.agg (ofBytes a))) = pc v a 0 := by
    rw [splice_eq _ _ _ (by rw [pc_len (zeros_len 16)]; simp [vcells, hl])]
    simp only [vcells, hl]
    rw [pc, pc, List.take_succ_cons, List.take_zero, List.drop_succ_cons]
    rw [List.drop_append_of_le_length (by simp [ofBytes_length, zeros]), List.drop_eq_nil_of_le (by simp [ofBytes_length, zeros])]
    rfl
  rw [e2, fillD, if_pos ⟨rfl, rfl, by rw [pc_len ha]; omega⟩, fillD]
  congr 1
  show (pc v a 0).set 17 (.int .i64 n) = pc v a n
  rw [pc, pc, List.set_cons_succ, List.set_append_right _ _ (by omega), hl]; rfl
theorem pc_setn {v n m : Int} {a : List UInt8} (ha : a.length = 16) : (pc v a n).set 17 (.int .i64 m) = pc v a m := by
  have hl : (ofBytes a).length = 16 := by rw [ofBytes_length, ha]
  rw [pc, pc, List.set_cons_succ, List.set_append_right _ _ (by omega), hl]; rfl

theorem pmake_fc (h : Heap) (v n : Int) (a : List UInt8) (ha : a.length = 16) : FC Try.prog 17 [.int .i64 v, .agg (ofBytes a), .int .i64 n] h fun d h' => d = .tup [.agg (pc (makeV v n) (makeA v a n) (makeN v n)), .int .i64 (fitsF v n)] ∧ h' = h := by
  have hal : (ofBytes a).length = 16 := by rw [ofBytes_length, ha]
  have p7 : List.take 16 (ofBytes a) = ofBytes a := List.take_of_length_le (by omega)
  have z1 := zeros_len 16
  refine FC.goes cf17 ?_; simp only [c17]; simp only [List.length_cons, List.length_nil, Nat.reduceAdd, Nat.reduceSub, List.replicate_succ, List.replicate_zero, List.cons_append, List.nil_append]
  simp only [c17r0, c17r1, c17r2, c17r3, c17r4, ← pc_zero]
  simp (disch := first | omega | (simp only [List.length_append, List.length_cons, List.length_nil]; omega)) only [go_sem, fill_c, ↓reduceIte, reduceCtorEq, Nat.reduceAdd, Nat.reduceSub, Nat.reducePow, Nat.reduceMul, Nat.reduceEqDiff, Nat.reduceLT, Nat.reduceLeDiff, Int.reduceToNat, Int.reduceLT, Int.reduceLE, Int.reduceEq, Int.reduceNeg, Int.reduceAdd, Int.reduceSub, Int.reduceMul]
  refine gfc_same (fits_fc _ v n) ?_
  by_cases hf : fitsF v n = 0
  · obtain ⟨h0, h1⟩ := checkF_le hf
    obtain ⟨k, rfl⟩ := Int.eq_ofNat_of_zero_le h0
    have e1 : decide (fitsF v (k : Int) = 0) = true := decide_eq_true hf
    have hfl := frontTo_length a k
    have hm : makeV v (k : Int) = v ∧ makeA v a (k : Int) = frontTo a k ∧ makeN v (k : Int) = k := by simp [makeV, makeA, makeN, hf]
    rw [hm.1, hm.2.1, hm.2.2, hf]
    rw [hf] at e1
    simp (disch := first | omega | (simp only [List.length_append, List.length_cons, List.length_nil]; omega)) only [e1, p7, hal, go_sem, fill_c, ↓reduceIte, reduceCtorEq, Nat.reduceAdd, Nat.reduceSub, Nat.reducePow, Nat.reduceMul, Nat.reduceEqDiff, Nat.reduceLT, Nat.reduceLeDiff, Int.reduceToNat, Int.reduceLT, Int.reduceLE, Int.reduceEq, Int.reduceNeg, Int.reduceAdd, Int.reduceSub, Int.reduceMul]
    refine gfc_same (mask_fc _ a ha k (by omega)) ?_
    simp (disch := first | omega | (simp only [List.length_append, List.length_cons, List.length_nil]; omega)) only [pc_fill, hfl, pc_len, pc_one, z1, pc_over, pc_take, go_sem, ↓reduceIte, reduceCtorEq, Nat.reduceAdd, Nat.reduceSub, Nat.reducePow, Nat.reduceMul, Nat.reduceEqDiff, Nat.reduceLT, Nat.reduceLeDiff, Int.reduceToNat, Int.reduceLT, Int.reduceLE, Int.reduceEq, Int.reduceNeg, Int.reduceAdd, Int.reduceSub, Int.reduceMul]
    exact FinOk.drop (.inl rfl) (by simp [underL, underD, pc_under]) ⟨rfl, rfl⟩
  · have hm : makeV v n = 0 ∧ makeA v a n = zeros 16 ∧ makeN v n = 0 := by simp [makeV, makeA, makeN, hf]
    rw [hm.1, hm.2.1, hm.2.2]
    simp (disch := first | omega | (simp only [List.length_append, List.length_cons, List.length_nil]; omega)) only [hf, pc_len, pc_one, z1, pc_over, pc_take, go_sem, fill_c, ↓reduceIte, reduceCtorEq, Nat.reduceAdd, Nat.reduceSub, Nat.reducePow, Nat.reduceMul, Nat.reduceEqDiff, Nat.reduceLT, Nat.reduceLeDiff, Int.reduceToNat, Int.reduceLT, Int.reduceLE, Int.reduceEq, Int.reduceNeg, Int.reduceAdd, Int.reduceSub, Int.reduceMul]
    exact FinOk.drop (.inl rfl) (by simp [underL, underD, pc_under]) ⟨rfl, rfl⟩
theorem rmake2_fc (h : Heap) (v n : Int) (a : List UInt8) (ha : a.length = 16) : FC Try.prog 18 [.int .i64 v, .agg (ofBytes a), .int .i64 n] h fun d h' => d = .tup [.agg (pc (makeV v n) (makeA v a n) (makeN v n)), .int .i64 (fitsF v n)] ∧ h' = h := by
  by_cases hf : fitsF v n = 0
  · obtain ⟨h0, h1⟩ := checkF_le hf
    obtain ⟨k, rfl⟩ := Int.eq_ofNat_of_zero_le h0
    have hm : makeV v (k : Int) = v ∧ makeA v a (k : Int) = frontTo a k ∧ makeN v (k : Int) = k := by simp [makeV, makeA, makeN, hf]
    rw [hm.1, hm.2.1, hm.2.2, hf]
    exact rmake_fc h v a ha k hf
  · have hm : makeV v n = 0 ∧ makeA v a n = zeros 16 ∧ makeN v n = 0 := by simp [makeV, makeA, makeN, hf]
    rw [hm.1, hm.2.1, hm.2.2]
    have z1 := zeros_len 16
    have hfit := mostR_fits (v := v) (n := n)
    refine FC.goes cf18 ?_; simp only [c18]; simp only [List.length_cons, List.length_nil, Nat.reduceAdd, Nat.reduceSub, List.replicate_succ, List.replicate_zero, List.cons_append, List.nil_append]
    simp only [c18r0, c18r1, c18r2, c18r3, c18r4, ← pc_zero]
    simp (disch := first | omega | (simp only [List.length_append, List.length_cons, List.length_nil]; omega)) only [go_sem, fill_c, ↓reduceIte, reduceCtorEq, Nat.reduceAdd, Nat.reduceSub, Nat.reducePow, Nat.reduceMul, Nat.reduceEqDiff, Nat.reduceLT, Nat.reduceLeDiff, Int.reduceToNat, Int.reduceLT, Int.reduceLE, Int.reduceEq, Int.reduceNeg, Int.reduceAdd, Int.reduceSub, Int.reduceMul]
    refine gfc_same (rmost_fc _ v) ?_
    by_cases hm : mostR v < 0
    · rw [if_pos hm] at hfit
      rw [hfit]
      simp (disch := first | omega | (simp only [List.length_append, List.length_cons, List.length_nil]; omega)) only [hm, pc_len, pc_one, z1, pc_over, pc_take, go_sem, fill_c, ↓reduceIte, reduceCtorEq, Nat.reduceAdd, Nat.reduceSub, Nat.reducePow, Nat.reduceMul, Nat.reduceEqDiff, Nat.reduceLT, Nat.reduceLeDiff, Int.reduceToNat, Int.reduceLT, Int.reduceLE, Int.reduceEq, Int.reduceNeg, Int.reduceAdd, Int.reduceSub, Int.reduceMul]
      exact FinOk.drop (.inl rfl) (by simp [underL, underD, pc_under]) ⟨rfl, rfl⟩
    · rw [if_neg hm] at hfit
      have hc : n < 0 ∨ mostR v < n := Classical.byContradiction fun h => hf (by rw [hfit, if_neg h])
      rw [if_pos hc] at hfit
      rw [hfit]
      by_cases h0 : n < 0
      · simp (disch := first | omega | (simp only [List.length_append, List.length_cons, List.length_nil]; omega)) only [hm, h0, pc_len, pc_one, z1, pc_over, pc_take, go_sem, fill_c, ↓reduceIte, reduceCtorEq, Nat.reduceAdd, Nat.reduceSub, Nat.reducePow, Nat.reduceMul, Nat.reduceEqDiff, Nat.reduceLT, Nat.reduceLeDiff, Int.reduceToNat, Int.reduceLT, Int.reduceLE, Int.reduceEq, Int.reduceNeg, Int.reduceAdd, Int.reduceSub, Int.reduceMul]
        exact FinOk.drop (.inl rfl) (by simp [underL, underD, pc_under]) ⟨rfl, rfl⟩
      · have h1 : mostR v < n := by rcases hc with h | h; exact absurd h h0; exact h
        simp (disch := first | omega | (simp only [List.length_append, List.length_cons, List.length_nil]; omega)) only [hm, h0, go_sem, fill_c, ↓reduceIte, reduceCtorEq, Nat.reduceAdd, Nat.reduceSub, Nat.reducePow, Nat.reduceMul, Nat.reduceEqDiff, Nat.reduceLT, Nat.reduceLeDiff, Int.reduceToNat, Int.reduceLT, Int.reduceLE, Int.reduceEq, Int.reduceNeg, Int.reduceAdd, Int.reduceSub, Int.reduceMul]
        refine gfc_same (rmost_fc _ v) ?_
        simp (disch := first | omega | (simp only [List.length_append, List.length_cons, List.length_nil]; omega)) only [h1, pc_len, pc_one, z1, pc_over, pc_take, go_sem, fill_c, ↓reduceIte, reduceCtorEq, Nat.reduceAdd, Nat.reduceSub, Nat.reducePow, Nat.reduceMul, Nat.reduceEqDiff, Nat.reduceLT, Nat.reduceLeDiff, Int.reduceToNat, Int.reduceLT, Int.reduceLE, Int.reduceEq, Int.reduceNeg, Int.reduceAdd, Int.reduceSub, Int.reduceMul]
        exact FinOk.drop (.inl rfl) (by simp [underL, underD, pc_under]) ⟨rfl, rfl⟩

theorem shr128 (k : Nat) (h : k < 8) : arith .shr (.int .u8 128) (.int .u64 (k : Int)) = some (.int .u8 ((2 ^ (7 - k) : Nat) : Int)) := by
  have h1 := shr_u8 (x := 128) (k' := .u64) (b := (k : Int)) (by omega) (by omega)
  have h2 : ∀ k : Fin 8, 128 / 2 ^ k.val = 2 ^ (7 - k.val) := by decide
  have h3 := h2 ⟨k, h⟩
  simp only [Int.toNat_natCast] at h1
  simp only at h3
  rw [h3] at h1
  exact h1
theorem pc_byte {v n : Int} {a : List UInt8} (ha : a.length = 16) {k : Nat} (hk : k < 16) : (List.drop (1 + k) (pc v a n))[0]? = some (.int .u8 ((a.getD k 0).toNat : Int)) := by
  have hl : (ofBytes a).length = 16 := by rw [ofBytes_length, ha]
  rw [Nat.add_comm, pc, List.drop_succ_cons, List.drop_append_of_le_length (by omega), List.getElem?_append_left (by rw [List.length_drop]; omega)]
  exact byte_at ha hk
theorem pc_setb {v n : Int} {a : List UInt8} (ha : a.length = 16) {k : Nat} (hk : k < 16) (b : UInt8) : (pc v a n).set (1 + k) (.int .u8 (b.toNat : Int)) = pc v (a.set k b) n := by
  have hl : (ofBytes a).length = 16 := by rw [ofBytes_length, ha]
  rw [Nat.add_comm, pc, pc, List.set_cons_succ, List.set_append_left _ _ (by omega), ofBytes_put]
theorem i64_add1 {n : Nat} (h : n ≤ 128) : IntKind.i64.wrap ((n : Int) + 1) = (n : Int) + 1 := w_i64 (by omega) (by omega)
theorem half_set (a : List UInt8) (n : Nat) : ((a.getD (n / 8) 0).toNat ||| 2 ^ (7 - n % 8)) = (UInt8.ofNat ((a.getD (n / 8) 0).toNat ||| 2 ^ (7 - n % 8))).toNat :=
  (UInt8.toNat_ofNat_of_lt' (by exact or_lt _ (by omega))).symm

theorem phalves_fc (h : Heap) (v n : Int) (a : List UInt8) (ha : a.length = 16) : FC Try.prog 19 [.agg (pc v a n)] h fun d h' =>
    d = .tup [.agg (pc (halfV v a n) (halfL v a n) (halfN v a n)), .agg (pc (halfV v a n) (halfH v a n) (halfN v a n)), .bool (halfB v a n)] ∧ h' = h := by
  have z1 := zeros_len 16
  have er := right_fc
  simp only [prefD_pc] at er
  refine FC.goes cf19 ?_; simp only [c19]; simp only [List.length_cons, List.length_nil, Nat.reduceAdd, Nat.reduceSub, List.replicate_succ, List.replicate_zero, List.cons_append, List.nil_append]
  simp only [c19r0, c19r1, c19r2, c19r3, c19r4, ← pc_zero]
  simp (disch := first | omega | (simp only [List.length_append, List.length_cons, List.length_nil]; omega)) only [c19r0, c19r1, c19r2, c19r3, c19r4, c19r5, c19r6, c19r7, c19r8, c19r9, c19r10, c19r11, c19r12, c19l13, c19r14, c19r15, pc_one, pc_len, pc_v, go_sem, fill_c, ↓reduceIte, reduceCtorEq, Nat.reduceAdd, Nat.reduceSub, Nat.reducePow, Nat.reduceMul, Nat.reduceEqDiff, Nat.reduceLT, Nat.reduceLeDiff, Int.reduceToNat, Int.reduceLT, Int.reduceLE, Int.reduceEq, Int.reduceNeg, Int.reduceAdd, Int.reduceSub, Int.reduceMul]
  refine gfc_same (pmost_fc _ v) ?_
  simp (disch := first | omega | (simp only [List.length_append, List.length_cons, List.length_nil]; omega)) only [pc_take, pc_len, go_sem, fill_c, ↓reduceIte, reduceCtorEq, Nat.reduceAdd, Nat.reduceSub, Nat.reducePow, Nat.reduceMul, Nat.reduceEqDiff, Nat.reduceLT, Nat.reduceLeDiff, Int.reduceToNat, Int.reduceLT, Int.reduceLE, Int.reduceEq, Int.reduceNeg, Int.reduceAdd, Int.reduceSub, Int.reduceMul]
  refine gfc_same (er _ v n a ha) ?_
  cases hb : halfB v a n with
  | false =>
    have hh : halfV v a n = 0 ∧ halfL v a n = zeros 16 ∧ halfH v a n = zeros 16 ∧ halfN v a n = 0 := by simp [halfV, halfL, halfH, halfN, hb]
    rw [hh.1, hh.2.1, hh.2.2.1, hh.2.2.2]
    by_cases hc : checkF v a n = 0
    · have hn : n = mostN v := by simpa [halfB, hc] using hb
      have e1 : decide (n = mostN v) = true := decide_eq_true hn
      simp (disch := first | omega | (simp only [List.length_append, List.length_cons, List.length_nil]; omega)) only [hc, e1, pc_n, pc_len, pc_one, z1, pc_over, pc_take, go_sem, fill_c, ↓reduceIte, reduceCtorEq, Nat.reduceAdd, Nat.reduceSub, Nat.reducePow, Nat.reduceMul, Nat.reduceEqDiff, Nat.reduceLT, Nat.reduceLeDiff, Int.reduceToNat, Int.reduceLT, Int.reduceLE, Int.reduceEq, Int.reduceNeg, Int.reduceAdd, Int.reduceSub, Int.reduceMul]
      exact FinOk.drop (.inl rfl) (by simp [underL, underD, pc_under]) ⟨rfl, rfl⟩
    · simp (disch := first | omega | (simp only [List.length_append, List.length_cons, List.length_nil]; omega)) only [hc, pc_n, pc_len, pc_one, z1, pc_over, pc_take, go_sem, fill_c, ↓reduceIte, reduceCtorEq, Nat.reduceAdd, Nat.reduceSub, Nat.reducePow, Nat.reduceMul, Nat.reduceEqDiff, Nat.reduceLT, Nat.reduceLeDiff, Int.reduceToNat, Int.reduceLT, Int.reduceLE, Int.reduceEq, Int.reduceNeg, Int.reduceAdd, Int.reduceSub, Int.reduceMul]
      exact FinOk.drop (.inl rfl) (by simp [underL, underD, pc_under]) ⟨rfl, rfl⟩
  | true =>
    have hc : checkF v a n = 0 := by
      simp only [halfB, Bool.and_eq_true, decide_eq_true_eq] at hb; exact hb.1
    have hn : ¬ n = mostN v := by
      simp only [halfB, Bool.and_eq_true, decide_eq_true_eq, Bool.not_eq_true', decide_eq_false_iff_not] at hb; exact hb.2
    obtain ⟨m, hm1, hm2, h0, h1, h2⟩ := fits_most (check_fits hc)
    obtain ⟨k, rfl⟩ := Int.eq_ofNat_of_zero_le h0
    have hk : k < 128 := by omega
    have hh : halfV v a (k : Int) = v ∧ halfL v a (k : Int) = a ∧ halfH v a (k : Int) = setA a k ∧ halfN v a (k : Int) = (k : Int) + 1 := by simp [halfV, halfL, halfH, halfN, hb]
    rw [hh.1, hh.2.1, hh.2.2.1, hh.2.2.2]
    have s1 := shr128 (k % 8) (by omega)
    have g1 := pc_byte (v := v) (n := (k : Int)) ha (k := k / 8) (by omega)
    have lt1 := (a.getD (k / 8) 0).toNat_lt
    have lt2 : 2 ^ (7 - k % 8) < 256 := Nat.lt_of_lt_of_le (Nat.pow_lt_pow_right (by omega) (show 7 - k % 8 < 8 by omega)) (by omega)
    have o1 := or_u8 (x := (a.getD (k / 8) 0).toNat) (y := 2 ^ (7 - k % 8)) lt1 lt2
    have q1 := pc_setb (v := v) (n := (k : Int)) ha (k := k / 8) (by omega) (UInt8.ofNat ((a.getD (k / 8) 0).toNat ||| 2 ^ (7 - k % 8)))
    rw [← half_set] at q1
    have hsl : (setA a k).length = 16 := by rw [setA_length, ha]
    have q2 : (pc v a (k : Int)).set (1 + k / 8) (.int .u8 (((a.getD (k / 8) 0).toNat ||| 2 ^ (7 - k % 8) : Nat) : Int)) = pc v (setA a k) (k : Int) := q1
    have w1 := i64_add1 (n := k) (by omega)
    simp (disch := first | omega | (simp only [List.length_append, List.length_cons, List.length_nil]; omega)) only [hc, hn, pc_n, pc_len, pc_one, z1, pc_over, pc_take, s1, g1, o1, q2, go_sem, fill_c, ↓reduceIte, reduceCtorEq, Nat.reduceAdd, Nat.reduceSub, Nat.reducePow, Nat.reduceMul, Nat.reduceEqDiff, Nat.reduceLT, Nat.reduceLeDiff, Int.reduceToNat, Int.reduceLT, Int.reduceLE, Int.reduceEq, Int.reduceNeg, Int.reduceAdd, Int.reduceSub, Int.reduceMul]
    refine loop_to 2 (fun i st => ∃ (j : Nat → D), st = ⟨(j 0 :: j 1 :: .ref (h.length + 1) 0 :: .ref (h.length + 2) 0 :: .bool false :: j 5 :: j 6 :: .ref (h.length + 3) 0 :: .ref (h.length + 4) 0 :: j 9 :: j 10 :: j 11 :: j 12 :: j 13 :: j 14 :: j 15 :: j 16 :: j 17 :: j 18 :: j 19 :: j 20 :: j 21 :: j 22 :: j 23 :: j 24 :: j 25 :: j 26 :: j 27 :: j 28 :: j 29 :: j 30 :: j 31 :: j 32 :: j 33 :: j 34 :: j 35 :: j 36 :: j 37 :: j 38 :: j 39 :: j 40 :: j 41 :: j 42 :: j 43 :: .agg [.ref (h.length + 3) 0, .ref (h.length + 4) 0] :: .int .i64 (i : Int) :: j 46 :: j 47 :: j 48 :: j 49 :: j 50 :: j 51 :: j 52 :: j 53 :: j 54 :: j 55 :: j 56 :: j 57 :: []), h ++ [.box (pc v a (k : Int)), .box (pc 0 (zeros 16) 0), .box (pc 0 (zeros 16) 0),
      .box (pc v a (if 0 < i then (k : Int) + 1 else (k : Int))), .box (pc v (setA a k) (if 1 < i then (k : Int) + 1 else (k : Int)))]⟩) (junk rfl) ?_
    rintro i st hi ⟨j, rfl⟩
    obtain rfl | rfl | rfl : i = 0 ∨ i = 1 ∨ i = 2 := by omega
    · simp (disch := first | omega | (simp only [List.length_append, List.length_cons, List.length_nil]; omega)) only [c19r0, c19r1, c19r2, c19r3, c19r4, c19r5, c19r6, c19r7, c19r8, c19r9, c19r10, c19r11, c19r12, c19l13, c19r14, c19r15, pc_n, pc_len, pc_setn, w1, go_sem, fill_c, ↓reduceIte, reduceCtorEq, Nat.reduceAdd, Nat.reduceSub, Nat.reducePow, Nat.reduceMul, Nat.reduceEqDiff, Nat.reduceLT, Nat.reduceLeDiff, Int.reduceToNat, Int.reduceLT, Int.reduceLE, Int.reduceEq, Int.reduceNeg, Int.reduceAdd, Int.reduceSub, Int.reduceMul]
      exact junk rfl
    · simp (disch := first | omega | (simp only [List.length_append, List.length_cons, List.length_nil]; omega)) only [c19r0, c19r1, c19r2, c19r3, c19r4, c19r5, c19r6, c19r7, c19r8, c19r9, c19r10, c19r11, c19r12, c19l13, c19r14, c19r15, pc_n, pc_len, pc_setn, w1, go_sem, fill_c, ↓reduceIte, reduceCtorEq, Nat.reduceAdd, Nat.reduceSub, Nat.reducePow, Nat.reduceMul, Nat.reduceEqDiff, Nat.reduceLT, Nat.reduceLeDiff, Int.reduceToNat, Int.reduceLT, Int.reduceLE, Int.reduceEq, Int.reduceNeg, Int.reduceAdd, Int.reduceSub, Int.reduceMul]
      exact junk rfl
    · simp (disch := first | omega | (simp only [List.length_append, List.length_cons, List.length_nil]; omega)) only [c19r0, c19r1, c19r2, c19r3, c19r4, c19r5, c19r6, c19r7, c19r8, c19r9, c19r10, c19r11, c19r12, c19l13, c19r14, c19r15, z1, hsl, pc_n, pc_len, pc_one, pc_over, pc_take, go_sem, fill_c, ↓reduceIte, reduceCtorEq, Nat.reduceAdd, Nat.reduceSub, Nat.reducePow, Nat.reduceMul, Nat.reduceEqDiff, Nat.reduceLT, Nat.reduceLeDiff, Int.reduceToNat, Int.reduceLT, Int.reduceLE, Int.reduceEq, Int.reduceNeg, Int.reduceAdd, Int.reduceSub, Int.reduceMul]
      exact FinOk.drop (.inl rfl) (by simp [underL, underD, pc_under]) ⟨rfl, rfl⟩
theorem rhalves_fc (h : Heap) (v n : Int) (a : List UInt8) (ha : a.length = 16) : FC Try.prog 20 [.agg (pc v a n)] h fun d h' =>
    d = .tup [.agg (pc (halfV v a n) (halfL v a n) (halfN v a n)), .agg (pc (halfV v a n) (halfH v a n) (halfN v a n)), .bool (halfB v a n)] ∧ h' = h := by
  have z1 := zeros_len 16
  have er := rcheck_fc
  simp only [prefD_pc] at er
  refine FC.goes cf20 ?_; simp only [c20]; simp only [List.length_cons, List.length_nil, Nat.reduceAdd, Nat.reduceSub, List.replicate_succ, List.replicate_zero, List.cons_append, List.nil_append]
  simp only [c20r0, c20r1, c20r2, c20r3, c20r4, ← pc_zero]
  simp (disch := first | omega | (simp only [List.length_append, List.length_cons, List.length_nil]; omega)) only [c20r0, c20r1, c20r2, c20r3, c20r4, c20r5, c20r6, c20r7, c20r8, c20r9, c20r10, pc_one, pc_len, pc_take, go_sem, fill_c, ↓reduceIte, reduceCtorEq, Nat.reduceAdd, Nat.reduceSub, Nat.reducePow, Nat.reduceMul, Nat.reduceEqDiff, Nat.reduceLT, Nat.reduceLeDiff, Int.reduceToNat, Int.reduceLT, Int.reduceLE, Int.reduceEq, Int.reduceNeg, Int.reduceAdd, Int.reduceSub, Int.reduceMul]
  refine xfc_same (er _ v n a ha) ?_
  cases hb : halfB v a n with
  | false =>
    have hh : halfV v a n = 0 ∧ halfL v a n = zeros 16 ∧ halfH v a n = zeros 16 ∧ halfN v a n = 0 := by simp [halfV, halfL, halfH, halfN, hb]
    rw [hh.1, hh.2.1, hh.2.2.1, hh.2.2.2]
    by_cases hc : checkF v a n = 0
    · have hn : n = mostN v := by simpa [halfB, hc] using hb
      have e0 : decide (checkF v a n = 0) = true := decide_eq_true hc
      obtain ⟨m, hm1, hm2, h0, h1, h2⟩ := fits_most (check_fits hc)
      have e1 : decide (n = mostR v) = true := decide_eq_true (by rw [mostR, hm1, hn, hm2])
      simp (disch := first | omega | (simp only [List.length_append, List.length_cons, List.length_nil]; omega)) only [e0, pc_v, pc_n, pc_len, go_sem, fill_c, ↓reduceIte, reduceCtorEq, Nat.reduceAdd, Nat.reduceSub, Nat.reducePow, Nat.reduceMul, Nat.reduceEqDiff, Nat.reduceLT, Nat.reduceLeDiff, Int.reduceToNat, Int.reduceLT, Int.reduceLE, Int.reduceEq, Int.reduceNeg, Int.reduceAdd, Int.reduceSub, Int.reduceMul]
      refine xfc_same (rmost_fc _ v) ?_
      simp (disch := first | omega | (simp only [List.length_append, List.length_cons, List.length_nil]; omega)) only [e1, pc_n, pc_len, pc_one, z1, pc_over, pc_take, go_sem, fill_c, ↓reduceIte, reduceCtorEq, Nat.reduceAdd, Nat.reduceSub, Nat.reducePow, Nat.reduceMul, Nat.reduceEqDiff, Nat.reduceLT, Nat.reduceLeDiff, Int.reduceToNat, Int.reduceLT, Int.reduceLE, Int.reduceEq, Int.reduceNeg, Int.reduceAdd, Int.reduceSub, Int.reduceMul]
      exact FinOk.drop (.inl rfl) (by simp [underL, underD, pc_under]) ⟨rfl, rfl⟩
    · simp (disch := first | omega | (simp only [List.length_append, List.length_cons, List.length_nil]; omega)) only [hc, pc_n, pc_len, pc_one, z1, pc_over, pc_take, go_sem, fill_c, ↓reduceIte, reduceCtorEq, Nat.reduceAdd, Nat.reduceSub, Nat.reducePow, Nat.reduceMul, Nat.reduceEqDiff, Nat.reduceLT, Nat.reduceLeDiff, Int.reduceToNat, Int.reduceLT, Int.reduceLE, Int.reduceEq, Int.reduceNeg, Int.reduceAdd, Int.reduceSub, Int.reduceMul]
      exact FinOk.drop (.inl rfl) (by simp [underL, underD, pc_under]) ⟨rfl, rfl⟩
  | true =>
    have hc : checkF v a n = 0 := by
      simp only [halfB, Bool.and_eq_true, decide_eq_true_eq] at hb; exact hb.1
    have hn : ¬ n = mostN v := by
      simp only [halfB, Bool.and_eq_true, decide_eq_true_eq, Bool.not_eq_true', decide_eq_false_iff_not] at hb; exact hb.2
    obtain ⟨m, hm1, hm2, h0, h1, h2⟩ := fits_most (check_fits hc)
    have e0 : decide (checkF v a n = 0) = true := decide_eq_true hc
    have e1 : ¬ n = mostR v := by rw [mostR, hm1]; rw [hm2] at hn; exact hn
    obtain ⟨k, rfl⟩ := Int.eq_ofNat_of_zero_le h0
    have hk : k < 128 := by omega
    have hh : halfV v a (k : Int) = v ∧ halfL v a (k : Int) = a ∧ halfH v a (k : Int) = setA a k ∧ halfN v a (k : Int) = (k : Int) + 1 := by simp [halfV, halfL, halfH, halfN, hb]
    rw [hh.1, hh.2.1, hh.2.2.1, hh.2.2.2]
    have hsl : (setA a k).length = 16 := by rw [setA_length, ha]
    have w1 := i64_add1 (n := k) (by omega)
    have hl : (ofBytes a).length = 16 := by rw [ofBytes_length, ha]
    have hl2 : (ofBytes (setA a k)).length = 16 := by rw [ofBytes_length, hsl]
    have ho2 := ofBytes_one (setA a k)
    have hsp : splice (pc v a ((k : Int) + 1)) 1 (ofBytes (setA a k)) = pc v (setA a k) ((k : Int) + 1) := by
      rw [splice_eq _ _ _ (by rw [pc_len ha]; omega), hl2, pc, pc, List.take_succ_cons, List.take_zero, List.drop_succ_cons, List.drop_append_of_le_length (by omega), List.drop_eq_nil_of_le (by omega)]; rfl
    simp (disch := first | omega | (simp only [List.length_append, List.length_cons, List.length_nil]; omega)) only [e0, pc_v, pc_n, pc_len, go_sem, fill_c, ↓reduceIte, reduceCtorEq, Nat.reduceAdd, Nat.reduceSub, Nat.reducePow, Nat.reduceMul, Nat.reduceEqDiff, Nat.reduceLT, Nat.reduceLeDiff, Int.reduceToNat, Int.reduceLT, Int.reduceLE, Int.reduceEq, Int.reduceNeg, Int.reduceAdd, Int.reduceSub, Int.reduceMul]
    refine xfc_same (rmost_fc _ v) ?_
    simp (disch := first | omega | (simp only [List.length_append, List.length_cons, List.length_nil]; omega)) only [e1, pc_n, pc_len, pc_one, z1, pc_over, pc_take, pc_setn, w1, pc_a, pc_dl, go_sem, fill_c, ↓reduceIte, reduceCtorEq, Nat.reduceAdd, Nat.reduceSub, Nat.reducePow, Nat.reduceMul, Nat.reduceEqDiff, Nat.reduceLT, Nat.reduceLeDiff, Int.reduceToNat, Int.reduceLT, Int.reduceLE, Int.reduceEq, Int.reduceNeg, Int.reduceAdd, Int.reduceSub, Int.reduceMul]
    refine gfc_same (set_fcR _ a ha k hk) ?_
    simp (disch := first | omega | (simp only [List.length_append, List.length_cons, List.length_nil]; omega)) only [hsp, hl2, ho2, pc_n, pc_len, pc_one, z1, hsl, pc_over, pc_take, go_sem, fill_c, ↓reduceIte, reduceCtorEq, Nat.reduceAdd, Nat.reduceSub, Nat.reducePow, Nat.reduceMul, Nat.reduceEqDiff, Nat.reduceLT, Nat.reduceLeDiff, Int.reduceToNat, Int.reduceLT, Int.reduceLE, Int.reduceEq, Int.reduceNeg, Int.reduceAdd, Int.reduceSub, Int.reduceMul]
    exact FinOk.drop (.inl rfl) (by simp [underL, underD, pc_under]) ⟨rfl, rfl⟩

theorem rlast_fc (h : Heap) (v n : Int) (a : List UInt8) (ha : a.length = 16) : FC Try.prog 25 [.agg (pc v a n)] h fun d h' => d = .agg (ofBytes (lastF v a n)) ∧ h' = h := by
  have er := rcheck_fc
  simp only [prefD_pc] at er
  have hz : ofBytes (zeros 16) = List.replicate 16 (.int .u8 0) := rfl
  have hl : (ofBytes a).length = 16 := by rw [ofBytes_length, ha]
  have ho := ofBytes_one a
  refine FC.goes cf25 ?_; simp only [c25]; simp only [List.length_cons, List.length_nil, Nat.reduceAdd, Nat.reduceSub, List.replicate_succ, List.replicate_zero, List.cons_append, List.nil_append]
  simp (disch := first | omega | (simp only [List.length_append, List.length_cons, List.length_nil]; omega)) only [c25r0, c25r1, c25r2, c25r3, c25r4, c25r5, c25r6, c25r7, c25l8, c25r9, pc_one, pc_len, pc_take, go_sem, fill_c, ↓reduceIte, reduceCtorEq, Nat.reduceAdd, Nat.reduceSub, Nat.reducePow, Nat.reduceMul, Nat.reduceEqDiff, Nat.reduceLT, Nat.reduceLeDiff, Int.reduceToNat, Int.reduceLT, Int.reduceLE, Int.reduceEq, Int.reduceNeg, Int.reduceAdd, Int.reduceSub, Int.reduceMul]
  refine gfc_same (er _ v n a ha) ?_
  by_cases hc : checkF v a n = 0
  · have e0 : decide (checkF v a n = 0) = true := decide_eq_true hc
    obtain ⟨m, hm1, hm2, h0, h1, h2⟩ := fits_most (check_fits hc)
    obtain ⟨k, rfl⟩ := Int.eq_ofNat_of_zero_le h0
    have hlast : lastF v a (k : Int) = setsTo a k (m - k) := by
      rw [sets_last ha hm1 (by omega), lastF, if_pos hc, hm2]; rfl
    rw [hlast]
    have hmr : mostR v = (m : Int) := by rw [mostR, hm1]
    simp (disch := first | omega | (simp only [List.length_append, List.length_cons, List.length_nil]; omega)) only [e0, pc_n, pc_len, pc_a, pc_dl, hl, ho, splice_all, go_sem, fill_c, ↓reduceIte, reduceCtorEq, Nat.reduceAdd, Nat.reduceSub, Nat.reducePow, Nat.reduceMul, Nat.reduceEqDiff, Nat.reduceLT, Nat.reduceLeDiff, Int.reduceToNat, Int.reduceLT, Int.reduceLE, Int.reduceEq, Int.reduceNeg, Int.reduceAdd, Int.reduceSub, Int.reduceMul]
    refine loop_to (m - k) (fun i st => ∃ j : Nat → D, st = ⟨(j 0 :: .ref h.length 0 :: .ref (h.length + 1) 0 :: .ref (h.length + 2) 0 :: .int .i64 ((k + i : Nat) : Int) :: j 5 :: j 6 :: j 7 :: j 8 :: j 9 :: j 10 :: j 11 :: j 12 :: j 13 :: j 14 :: j 15 :: j 16 :: j 17 :: j 18 :: j 19 :: j 20 :: j 21 :: j 22 :: j 23 :: []), h ++ [.box (pc v a (k : Int)), .box (List.replicate 16 (.int .u8 0)), .box (ofBytes (setsTo a k i))]⟩) (junk rfl) ?_
    rintro i st hi ⟨j, rfl⟩
    have hsl : (setsTo a k i).length = 16 := by rw [setsTo_length, ha]
    have hsl2 : (ofBytes (setsTo a k i)).length = 16 := by rw [ofBytes_length, hsl]
    have htk : List.take 16 (ofBytes (setsTo a k i)) = ofBytes (setsTo a k i) := List.take_of_length_le (by omega)
    simp (disch := first | omega | (simp only [List.length_append, List.length_cons, List.length_nil]; omega)) only [c25r0, c25r1, c25r2, c25r3, c25r4, c25r5, c25r6, c25r7, c25l8, c25r9, pc_v, go_sem, fill_c, ↓reduceIte, reduceCtorEq, Nat.reduceAdd, Nat.reduceSub, Nat.reducePow, Nat.reduceMul, Nat.reduceEqDiff, Nat.reduceLT, Nat.reduceLeDiff, Int.reduceToNat, Int.reduceLT, Int.reduceLE, Int.reduceEq, Int.reduceNeg, Int.reduceAdd, Int.reduceSub, Int.reduceMul]
    refine gfc_same (rmost_fc _ v) ?_
    rw [hmr]
    by_cases hlt : i < m - k
    · have e1 : ((k + i : Nat) : Int) < (m : Int) := by omega
      have w1 : IntKind.i64.wrap (((k + i : Nat) : Int) + 1) = ((k + (i + 1) : Nat) : Int) := by rw [w_i64 (by omega) (by omega)]; omega
      have hnl : (ofBytes (setA (setsTo a k i) (k + i))).length = 16 := by rw [ofBytes_length, setA_length, hsl]
      have hno := ofBytes_one (setA (setsTo a k i) (k + i))
      simp (disch := first | omega | (simp only [List.length_append, List.length_cons, List.length_nil]; omega)) only [e1, hsl2, htk, go_sem, fill_c, ↓reduceIte, reduceCtorEq, Nat.reduceAdd, Nat.reduceSub, Nat.reducePow, Nat.reduceMul, Nat.reduceEqDiff, Nat.reduceLT, Nat.reduceLeDiff, Int.reduceToNat, Int.reduceLT, Int.reduceLE, Int.reduceEq, Int.reduceNeg, Int.reduceAdd, Int.reduceSub, Int.reduceMul]
      refine gfc_same (set_fcR _ (setsTo a k i) hsl (k + i) (by omega)) ?_
      simp (disch := first | omega | (simp only [List.length_append, List.length_cons, List.length_nil]; omega)) only [hnl, hno, hsl2, splice_all, w1, go_sem, fill_c, ↓reduceIte, reduceCtorEq, Nat.reduceAdd, Nat.reduceSub, Nat.reducePow, Nat.reduceMul, Nat.reduceEqDiff, Nat.reduceLT, Nat.reduceLeDiff, Int.reduceToNat, Int.reduceLT, Int.reduceLE, Int.reduceEq, Int.reduceNeg, Int.reduceAdd, Int.reduceSub, Int.reduceMul]
      exact ⟨hlt, junk rfl⟩
    · obtain rfl : i = m - k := by omega
      have e1 : ¬ ((k + (m - k) : Nat) : Int) < (m : Int) := by omega
      have hno := ofBytes_one (setsTo a k (m - k))
      simp (disch := first | omega | (simp only [List.length_append, List.length_cons, List.length_nil]; omega)) only [e1, hsl2, htk, hno, splice_all, go_sem, fill_c, ↓reduceIte, reduceCtorEq, Nat.reduceAdd, Nat.reduceSub, Nat.reducePow, Nat.reduceMul, Nat.reduceEqDiff, Nat.reduceLT, Nat.reduceLeDiff, Int.reduceToNat, Int.reduceLT, Int.reduceLE, Int.reduceEq, Int.reduceNeg, Int.reduceAdd, Int.reduceSub, Int.reduceMul]
      exact FinOk.drop (.inl rfl) (by simp [underL, underD, under_bytes]) ⟨rfl, rfl⟩
  · have hlast : lastF v a n = zeros 16 := by rw [lastF, if_neg hc]
    rw [hlast, hz]
    simp (disch := first | omega | (simp only [List.length_append, List.length_cons, List.length_nil]; omega)) only [hc, splice_all, go_sem, fill_c, ↓reduceIte, reduceCtorEq, Nat.reduceAdd, Nat.reduceSub, Nat.reducePow, Nat.reduceMul, Nat.reduceEqDiff, Nat.reduceLT, Nat.reduceLeDiff, Int.reduceToNat, Int.reduceLT, Int.reduceLE, Int.reduceEq, Int.reduceNeg, Int.reduceAdd, Int.reduceSub, Int.reduceMul]
    exact FinOk.drop (.inl rfl) (by simp [underL, underD]) ⟨rfl, rfl⟩
end Go.Proofs
