/-
  Own work. The walks of the document's prefixes: Most, Bit, set, front, Check, Has, Make.
-/
import Derived.Test.YtodlpcoffmnmbaaPb
namespace Go.Proofs
open Go Go.Ytodlpcoffmnmbaa
set_option linter.unusedVariables false
set_option linter.unusedSimpArgs false
set_option maxRecDepth 10000

/-! ### weighbridge/weighbridgeref07.Most, params 1 -/
def c58r0 : List AStm := [.op (some 2) none (.mv (.c (.int .i64 0)))]
def c58r1 : List AStm := [.op (some 3) none (.mv (.t 0)),
    .op (some 4) none (.bin .eql (.t 3) (.c (.int .i64 4)))]
def c58r2 : List AStm := [.op (some 2) none (.mv (.c (.int .i64 32)))]
def c58r3 : List AStm := [.op (some 5) none (.mv (.t 0)),
    .op (some 6) none (.bin .eql (.t 5) (.c (.int .i64 6)))]
def c58r4 : List AStm := [.op (some 2) none (.mv (.c (.int .i64 128)))]
def c58r5 : List AStm := [.op (some 2) none (.mv (.c (.int .i64 (-1))))]
def c58 : CF := ⟨.seq (.reg c58r0) (.seq (.seq (.reg c58r1) (.cond (.t 4) (.seq (.reg c58r2) (.ret)) (.skip))) (.seq (.seq (.reg c58r3) (.cond (.t 6) (.seq (.reg c58r4) (.ret)) (.skip))) (.seq (.reg c58r5) (.ret)))), [.tmp 2], 7⟩
theorem cf58 : cfun Try.prog 58 = some c58 := by kernel_rfl

/-! ### weighbridge/weighbridgeref07.Bit, params 2 -/
def c83r0 : List AStm := [.op (some 2) none (.box (.t 0)),
    .op (some 4) none (.mv (.c (.int .i64 0)))]
def c83r1 : List AStm := [.op (some 7) none (.mv (.t 1)),
    .op (some 8) none (.bin .quo (.t 7) (.c (.int .i64 8))),
    .op (some 9) none (.ixa 16 1 (.t 2) (.t 8)),
    .op (some 10) none (.load none (.t 9)),
    .op (some 11) none (.conv .i64 (.t 10)),
    .op (some 5) none (.mv (.t 11))]
def c83r2 : List AStm := [.op (some 12) none (.mv (.t 1)),
    .op (some 13) none (.bin .rem (.t 12) (.c (.int .i64 8))),
    .op (some 14) none (.bin .sub (.c (.int .i64 7)) (.t 13)),
    .op (some 6) none (.mv (.t 14))]
def c83r3 : List AStm := [.op (some 15) none (.mv (.t 6)),
    .op (some 16) none (.bin .gtr (.t 15) (.c (.int .i64 0)))]
def c83r4 : List AStm := [.op (some 19) none (.mv (.t 5)),
    .op (some 20) none (.bin .quo (.t 19) (.c (.int .i64 2))),
    .op (some 5) none (.mv (.t 20))]
def c83r5 : List AStm := [.op (some 17) none (.mv (.t 6)),
    .op (some 18) none (.bin .sub (.t 17) (.c (.int .i64 1))),
    .op (some 6) none (.mv (.t 18))]
def c83l6 : AC := .seq (.seq (.reg c83r3) (.cond (.t 16) (.skip) (.exit 0))) (.seq (.block 1 (.reg c83r4)) (.reg c83r5))
def c83r7 : List AStm := [.op (some 21) none (.mv (.t 5)),
    .op (some 22) none (.bin .rem (.t 21) (.c (.int .i64 2))),
    .op (some 4) none (.mv (.t 22))]
def c83 : CF := ⟨.seq (.reg c83r0) (.seq (.reg c83r1) (.seq (.seq (.reg c83r2) (.block 0 (.loop c83l6))) (.seq (.reg c83r7) (.ret)))), [.tmp 4], 23⟩
theorem cf83 : cfun Try.prog 83 = some c83 := by kernel_rfl

/-! ### weighbridge/weighbridgeref07.set, params 2 -/
def c62r0 : List AStm := [.op (some 2) none (.box (.t 0)),
    .op (some 4) none (.alloc (List.replicate 16 (.int .u8 0)))]
def c62r1 : List AStm := [.op (some 7) none (.load (some 16) (.t 2)),
    .op (some 8) none (.mv (.t 1)),
    .call (some 9) none (.c (.fn (.func 83) [] [])) [(.t 7), (.t 8)],
    .op (some 10) none (.bin .eql (.t 9) (.c (.int .i64 1)))]
def c62r2 : List AStm := [.op (some 11) none (.load (some 16) (.t 2)),
    .op none none (.store 16 (.t 4) (.t 11))]
def c62r3 : List AStm := [.op (some 5) none (.mv (.c (.int .i64 1)))]
def c62r4 : List AStm := [.op (some 12) none (.mv (.t 1)),
    .op (some 13) none (.bin .rem (.t 12) (.c (.int .i64 8))),
    .op (some 14) none (.bin .sub (.c (.int .i64 7)) (.t 13)),
    .op (some 6) none (.mv (.t 14))]
def c62r5 : List AStm := [.op (some 15) none (.mv (.t 6)),
    .op (some 16) none (.bin .gtr (.t 15) (.c (.int .i64 0)))]
def c62r6 : List AStm := [.op (some 19) none (.mv (.t 5)),
    .op (some 20) none (.bin .mul (.t 19) (.c (.int .i64 2))),
    .op (some 5) none (.mv (.t 20))]
def c62r7 : List AStm := [.op (some 17) none (.mv (.t 6)),
    .op (some 18) none (.bin .sub (.t 17) (.c (.int .i64 1))),
    .op (some 6) none (.mv (.t 18))]
def c62l8 : AC := .seq (.seq (.reg c62r5) (.cond (.t 16) (.skip) (.exit 0))) (.seq (.block 1 (.reg c62r6)) (.reg c62r7))
def c62r9 : List AStm := [.op (some 21) none (.mv (.t 1)),
    .op (some 22) none (.bin .quo (.t 21) (.c (.int .i64 8))),
    .op (some 23) none (.mv (.t 1)),
    .op (some 24) none (.bin .quo (.t 23) (.c (.int .i64 8))),
    .op (some 25) none (.ixa 16 1 (.t 2) (.t 24)),
    .op (some 26) none (.load none (.t 25)),
    .op (some 27) none (.conv .i64 (.t 26)),
    .op (some 28) none (.mv (.t 5)),
    .op (some 29) none (.bin .add (.t 27) (.t 28)),
    .op (some 30) none (.conv .u8 (.t 29)),
    .op (some 31) none (.ixa 16 1 (.t 2) (.t 22)),
    .op none none (.store 1 (.t 31) (.t 30))]
def c62r10 : List AStm := [.op (some 32) none (.load (some 16) (.t 2)),
    .op none none (.store 16 (.t 4) (.t 32))]
def c62 : CF := ⟨.seq (.reg c62r0) (.seq (.seq (.reg c62r1) (.cond (.t 10) (.seq (.reg c62r2) (.ret)) (.skip))) (.seq (.reg c62r3) (.seq (.seq (.reg c62r4) (.block 0 (.loop c62l8))) (.seq (.reg c62r9) (.seq (.reg c62r10) (.ret)))))), [.cell 4 (some 16)], 33⟩
theorem cf62 : cfun Try.prog 62 = some c62 := by kernel_rfl

/-! ### weighbridge/weighbridgeref07.front, params 2 -/
def c59r0 : List AStm := [.op (some 2) none (.box (.t 0)),
    .op (some 4) none (.alloc (List.replicate 16 (.int .u8 0)))]
def c59r1 : List AStm := [.op (some 5) none (.alloc (List.replicate 16 (.int .u8 0)))]
def c59r2 : List AStm := [.op (some 6) none (.mv (.c (.int .i64 0)))]
def c59r3 : List AStm := [.op (some 7) none (.mv (.t 6)),
    .op (some 8) none (.mv (.t 1)),
    .op (some 9) none (.bin .lss (.t 7) (.t 8))]
def c59r4 : List AStm := [.op (some 12) none (.load (some 16) (.t 2)),
    .op (some 13) none (.mv (.t 6)),
    .call (some 14) none (.c (.fn (.func 83) [] [])) [(.t 12), (.t 13)],
    .op (some 15) none (.bin .eql (.t 14) (.c (.int .i64 1)))]
def c59r5 : List AStm := [.op (some 16) none (.load (some 16) (.t 5)),
    .op (some 17) none (.mv (.t 6)),
    .call (some 18) none (.c (.fn (.func 62) [] [])) [(.t 16), (.t 17)],
    .op none none (.store 16 (.t 5) (.t 18))]
def c59r6 : List AStm := [.op (some 10) none (.mv (.t 6)),
    .op (some 11) none (.bin .add (.t 10) (.c (.int .i64 1))),
    .op (some 6) none (.mv (.t 11))]
def c59l7 : AC := .seq (.seq (.reg c59r3) (.cond (.t 9) (.skip) (.exit 0))) (.seq (.block 1 (.seq (.reg c59r4) (.cond (.t 15) (.reg c59r5) (.skip)))) (.reg c59r6))
def c59r8 : List AStm := [.op (some 19) none (.load (some 16) (.t 5)),
    .op none none (.store 16 (.t 4) (.t 19))]
def c59 : CF := ⟨.seq (.reg c59r0) (.seq (.reg c59r1) (.seq (.seq (.reg c59r2) (.block 0 (.loop c59l7))) (.seq (.reg c59r8) (.ret)))), [.cell 4 (some 16)], 20⟩
theorem cf59 : cfun Try.prog 59 = some c59 := by kernel_rfl

/-! ### weighbridge/weighbridgeref07.Check, params 1 -/
def c23r0 : List AStm := [.op (some 1) none (.box (.t 0)),
    .op (some 2) none (.mv (.c (.int .i64 0)))]
def c23r1 : List AStm := [.op (some 3) none (.faddr 0 (.t 1)),
    .op (some 4) none (.load none (.t 3)),
    .call (some 5) none (.c (.fn (.func 58) [] [])) [(.t 4)],
    .op (some 6) none (.bin .lss (.t 5) (.c (.int .i64 0)))]
def c23r2 : List AStm := [.op (some 2) none (.mv (.c (.int .i64 4)))]
def c23r3 : List AStm := []
def c23r4 : List AStm := [.op (some 7) none (.faddr 17 (.t 1)),
    .op (some 8) none (.load none (.t 7)),
    .op (some 9) none (.bin .lss (.t 8) (.c (.int .i64 0))),
    .op (some 10) none (.mv (.t 9)),
    .op (some 11) (some (10, false)) (.faddr 17 (.t 1)),
    .op (some 12) (some (10, false)) (.load none (.t 11)),
    .op (some 13) (some (10, false)) (.faddr 0 (.t 1)),
    .op (some 14) (some (10, false)) (.load none (.t 13)),
    .callG (some 15) (some (10, false)) (.c (.fn (.func 58) [] [])) [(.t 14)],
    .op (some 16) (some (10, false)) (.bin .gtr (.t 12) (.t 15)),
    .op (some 17) none (.pick (.t 10) (.c (.bool true)) (.t 16))]
def c23r5 : List AStm := [.op (some 2) none (.mv (.c (.int .i64 1)))]
def c23r6 : List AStm := []
def c23r7 : List AStm := [.op (some 18) none (.faddr 1 (.t 1)),
    .op (some 19) none (.load (some 16) (.t 18)),
    .op (some 20) none (.faddr 17 (.t 1)),
    .op (some 21) none (.load none (.t 20)),
    .op (some 23) none (.faddr 1 (.t 1)),
    .op (some 24) none (.load (some 16) (.t 23)),
    .callG (some 22) none (.c (.fn (.func 59) [] [])) [(.t 19), (.t 21)],
    .op (some 25) none (.eqa true (List.replicate 16 .ki) (.t 22) (.t 24))]
def c23r8 : List AStm := [.op (some 2) none (.mv (.c (.int .i64 5)))]
def c23r9 : List AStm := [.op (some 2) none (.mv (.c (.int .i64 0)))]
def c23 : CF := ⟨.seq (.reg c23r0) (.seq (.seq (.reg c23r1) (.cond (.t 6) (.seq (.reg c23r2) (.ret)) (.skip))) (.seq (.seq (.dreg c23r3 c23r4) (.cond (.t 17) (.seq (.reg c23r5) (.ret)) (.skip))) (.seq (.seq (.dreg c23r6 c23r7) (.cond (.t 25) (.seq (.reg c23r8) (.ret)) (.skip))) (.seq (.reg c23r9) (.ret))))), [.tmp 2], 26⟩
theorem cf23 : cfun Try.prog 23 = some c23 := by kernel_rfl

/-! ### weighbridge/weighbridgeref07.Has, params 3 -/
def c28r0 : List AStm := [.op (some 3) none (.box (.t 0)),
    .op (some 5) none (.box (.t 2)),
    .op (some 6) none (.mv (.c (.bool false)))]
def c28r1 : List AStm := []
def c28r2 : List AStm := [.op (some 7) none (.load (some 18) (.t 3)),
    .callG (some 8) none (.c (.fn (.func 23) [] [])) [(.t 7)],
    .op (some 9) none (.bin .eql (.t 8) (.c (.int .i64 0))),
    .op (some 10) none (.mv (.t 9)),
    .op (some 11) (some (10, true)) (.mv (.t 1)),
    .op (some 12) (some (10, true)) (.faddr 0 (.t 3)),
    .op (some 13) (some (10, true)) (.load none (.t 12)),
    .op (some 14) (some (10, true)) (.bin .eql (.t 11) (.t 13)),
    .op (some 15) none (.pick (.t 10) (.t 14) (.c (.bool false))),
    .op (some 16) none (.mv (.t 15)),
    .op (some 17) (some (16, true)) (.load (some 16) (.t 5)),
    .op (some 18) (some (16, true)) (.faddr 17 (.t 3)),
    .op (some 19) (some (16, true)) (.load none (.t 18)),
    .op (some 21) (some (16, true)) (.faddr 1 (.t 3)),
    .op (some 22) (some (16, true)) (.load (some 16) (.t 21)),
    .callG (some 20) (some (16, true)) (.c (.fn (.func 59) [] [])) [(.t 17), (.t 19)],
    .op (some 23) (some (16, true)) (.eqa false (List.replicate 16 .ki) (.t 20) (.t 22)),
    .op (some 24) none (.pick (.t 16) (.t 23) (.c (.bool false))),
    .op (some 6) none (.mv (.t 24))]
def c28 : CF := ⟨.seq (.reg c28r0) (.seq (.dreg c28r1 c28r2) (.ret)), [.tmp 6], 25⟩
theorem cf28 : cfun Try.prog 28 = some c28 := by kernel_rfl

/-! ### weighbridge/weighbridgeref07.Make, params 3 -/
def c18r0 : List AStm := [.op (some 4) none (.box (.t 1)),
    .op (some 6) none (.alloc [(.int .i64 0), (.int .u8 0), (.int .u8 0), (.int .u8 0), (.int .u8 0), (.int .u8 0), (.int .u8 0), (.int .u8 0), (.int .u8 0), (.int .u8 0), (.int .u8 0), (.int .u8 0), (.int .u8 0), (.int .u8 0), (.int .u8 0), (.int .u8 0), (.int .u8 0), (.int .i64 0)]),
    .op (some 7) none (.mv (.c (.int .i64 0)))]
def c18r1 : List AStm := [.op (some 8) none (.mv (.t 0)),
    .call (some 9) none (.c (.fn (.func 58) [] [])) [(.t 8)],
    .op (some 10) none (.bin .lss (.t 9) (.c (.int .i64 0)))]
def c18r2 : List AStm := [.op (some 11) none (.build [(.int .i64 0), (.int .u8 0), (.int .u8 0), (.int .u8 0), (.int .u8 0), (.int .u8 0), (.int .u8 0), (.int .u8 0), (.int .u8 0), (.int .u8 0), (.int .u8 0), (.int .u8 0), (.int .u8 0), (.int .u8 0), (.int .u8 0), (.int .u8 0), (.int .u8 0), (.int .i64 0)] []),
    .op none none (.store 18 (.t 6) (.t 11)),
    .op (some 7) none (.mv (.c (.int .i64 4)))]
def c18r3 : List AStm := [.op (some 12) none (.mv (.t 2)),
    .op (some 13) none (.bin .lss (.t 12) (.c (.int .i64 0))),
    .op (some 14) none (.mv (.t 13)),
    .op (some 15) (some (14, false)) (.mv (.t 2)),
    .op (some 16) (some (14, false)) (.mv (.t 0)),
    .call (some 17) (some (14, false)) (.c (.fn (.func 58) [] [])) [(.t 16)],
    .op (some 18) (some (14, false)) (.bin .gtr (.t 15) (.t 17)),
    .op (some 19) none (.pick (.t 14) (.c (.bool true)) (.t 18))]
def c18r4 : List AStm := [.op (some 20) none (.build [(.int .i64 0), (.int .u8 0), (.int .u8 0), (.int .u8 0), (.int .u8 0), (.int .u8 0), (.int .u8 0), (.int .u8 0), (.int .u8 0), (.int .u8 0), (.int .u8 0), (.int .u8 0), (.int .u8 0), (.int .u8 0), (.int .u8 0), (.int .u8 0), (.int .u8 0), (.int .i64 0)] []),
    .op none none (.store 18 (.t 6) (.t 20)),
    .op (some 7) none (.mv (.c (.int .i64 1)))]
def c18r5 : List AStm := [.op (some 21) none (.mv (.t 0)),
    .op (some 22) none (.load (some 16) (.t 4)),
    .op (some 23) none (.mv (.t 2)),
    .call (some 24) none (.c (.fn (.func 59) [] [])) [(.t 22), (.t 23)],
    .op (some 25) none (.mv (.t 2)),
    .op (some 26) none (.build [(.int .i64 0), (.int .u8 0), (.int .u8 0), (.int .u8 0), (.int .u8 0), (.int .u8 0), (.int .u8 0), (.int .u8 0), (.int .u8 0), (.int .u8 0), (.int .u8 0), (.int .u8 0), (.int .u8 0), (.int .u8 0), (.int .u8 0), (.int .u8 0), (.int .u8 0), (.int .i64 0)] [(0, 1, (.t 21)), (1, 16, (.t 24)), (17, 1, (.t 25))]),
    .op none none (.store 18 (.t 6) (.t 26)),
    .op (some 7) none (.mv (.c (.int .i64 0)))]
def c18 : CF := ⟨.seq (.reg c18r0) (.seq (.seq (.reg c18r1) (.cond (.t 10) (.seq (.reg c18r2) (.ret)) (.skip))) (.seq (.seq (.reg c18r3) (.cond (.t 19) (.seq (.reg c18r4) (.ret)) (.skip))) (.seq (.reg c18r5) (.ret)))), [.cell 6 (some 18), .tmp 7], 27⟩
theorem cf18 : cfun Try.prog 18 = some c18 := by kernel_rfl



def mostR (v : Int) : Int := match mostF v with | some m => (m : Int) | none => -1
theorem rmost_fc (h : Heap) (v : Int) : FC Try.prog 58 [.int .i64 v] h fun d h' => d = .int .i64 (mostR v) ∧ h' = h := by
  refine FC.goes cf58 ?_; simp only [c58]; simp only [List.length_cons, List.length_nil, Nat.reduceAdd, Nat.reduceSub, List.replicate_succ, List.replicate_zero, List.cons_append, List.nil_append]
  by_cases h4 : v = 4
  · subst h4
    simp (disch := first | omega | (simp only [List.length_append, List.length_cons, List.length_nil]; omega)) only [c58r0, c58r1, c58r2, c58r3, c58r4, c58r5, go_sem, fill_c, ↓reduceIte, reduceCtorEq, Nat.reduceAdd, Nat.reduceSub, Nat.reducePow, Nat.reduceMul, Nat.reduceEqDiff, Nat.reduceLT, Nat.reduceLeDiff, Int.reduceToNat, Int.reduceLT, Int.reduceLE, Int.reduceEq, Int.reduceNeg, Int.reduceAdd, Int.reduceSub, Int.reduceMul]
    exact FinOk.all ⟨rfl, rfl⟩
  · by_cases h6 : v = 6
    · subst h6
      simp (disch := first | omega | (simp only [List.length_append, List.length_cons, List.length_nil]; omega)) only [c58r0, c58r1, c58r2, c58r3, c58r4, c58r5, go_sem, fill_c, ↓reduceIte, reduceCtorEq, Nat.reduceAdd, Nat.reduceSub, Nat.reducePow, Nat.reduceMul, Nat.reduceEqDiff, Nat.reduceLT, Nat.reduceLeDiff, Int.reduceToNat, Int.reduceLT, Int.reduceLE, Int.reduceEq, Int.reduceNeg, Int.reduceAdd, Int.reduceSub, Int.reduceMul]
      exact FinOk.all ⟨rfl, rfl⟩
    · have e1 : mostF v = none := by simp [mostF, h4, h6]
      have e2 : mostR v = -1 := by rw [mostR, e1]
      rw [e2]
      simp (disch := first | omega | (simp only [List.length_append, List.length_cons, List.length_nil]; omega)) only [c58r0, c58r1, c58r2, c58r3, c58r4, c58r5, h4, h6, go_sem, fill_c, ↓reduceIte, reduceCtorEq, Nat.reduceAdd, Nat.reduceSub, Nat.reducePow, Nat.reduceMul, Nat.reduceEqDiff, Nat.reduceLT, Nat.reduceLeDiff, Int.reduceToNat, Int.reduceLT, Int.reduceLE, Int.reduceEq, Int.reduceNeg, Int.reduceAdd, Int.reduceSub, Int.reduceMul]
      exact FinOk.all ⟨rfl, rfl⟩

def bitN (a : List UInt8) (i : Nat) : Nat := (a.getD (i / 8) 0).toNat / 2 ^ (7 - i % 8) % 2
theorem bitN_eq (a : List UInt8) (i : Nat) : bitN a i = if abit a i then 1 else 0 := by
  unfold bitN abit
  rw [Nat.testBit_eq_decide_div_mod_eq]
  have h := Nat.mod_two_eq_zero_or_one ((a.getD (i / 8) 0).toNat / 2 ^ (7 - i % 8))
  generalize (a.getD (i / 8) 0).toNat / 2 ^ (7 - i % 8) % 2 = q at *
  rcases h with rfl | rfl <;> rfl
theorem byte_at {a : List UInt8} (ha : a.length = 16) {k : Nat} (hk : k < 16) : (List.drop k (ofBytes a))[0]? = some (.int .u8 ((a.getD k 0).toNat : Int)) := by
  rw [List.getElem?_drop, Nat.add_zero, ofBytes_get, getB (by omega)]; rfl
theorem rbit_fc (h : Heap) (a : List UInt8) (ha : a.length = 16) (i : Nat) (hi : i < 128) : FC Try.prog 83 [.agg (ofBytes a), .int .i64 (i : Int)] h fun d h' => d = .int .i64 ((bitN a i : Nat) : Int) ∧ h' = h := by
  refine FC.goes cf83 ?_; simp only [c83]; simp only [List.length_cons, List.length_nil, Nat.reduceAdd, Nat.reduceSub, List.replicate_succ, List.replicate_zero, List.cons_append, List.nil_append]
  have e1 : IntKind.i64.wrap ((i / 8 : Nat) : Int) = ((i / 8 : Nat) : Int) := w_i64 (by omega) (by omega)
  have e2 : IntKind.i64.wrap ((i % 8 : Nat) : Int) = ((i % 8 : Nat) : Int) := w_i64 (by omega) (by omega)
  have e3 : IntKind.i64.wrap (7 - ((i % 8 : Nat) : Int)) = ((7 - i % 8 : Nat) : Int) := by rw [w_i64 (by omega) (by omega)]; omega
  have hi8 : i / 8 < 16 := by omega
  have hg := byte_at ha hi8
  have hb := (a.getD (i / 8) 0).toNat_lt
  have hbn : bitN a i = (a.getD (i / 8) 0).toNat / 2 ^ (7 - i % 8) % 2 := rfl
  have hal : (ofBytes a).length = 16 := by rw [ofBytes_length, ha]
  rw [hbn]
  generalize a.getD (i / 8) 0 = b at *
  have e4 : IntKind.i64.wrap (b.toNat : Int) = (b.toNat : Int) := w_i64 (by omega) (by omega)
  simp (disch := first | omega | (simp only [List.length_append, List.length_cons, List.length_nil]; omega)) only [c83r0, c83r1, c83r2, c83r3, c83r4, c83r5, c83l6, c83r7, e1, e2, e3, e4, hg, hal, go_sem, fill_c, ↓reduceIte, reduceCtorEq, Nat.reduceAdd, Nat.reduceSub, Nat.reducePow, Nat.reduceMul, Nat.reduceEqDiff, Nat.reduceLT, Nat.reduceLeDiff, Int.reduceToNat, Int.reduceLT, Int.reduceLE, Int.reduceEq, Int.reduceNeg, Int.reduceAdd, Int.reduceSub, Int.reduceMul]
  have hs : 7 - i % 8 ≤ 7 := by omega
  generalize 7 - i % 8 = s at *
  refine loop_to s (fun k st => ∃ (v q : Nat), v = b.toNat / 2 ^ k ∧ q + k = s ∧ ∃ (j : Nat → D), st = ⟨(j 0 :: j 1 :: j 2 :: j 3 :: j 4 :: .int .i64 (v : Int) :: .int .i64 (q : Int) :: j 7 :: j 8 :: j 9 :: j 10 :: j 11 :: j 12 :: j 13 :: j 14 :: j 15 :: j 16 :: j 17 :: j 18 :: j 19 :: j 20 :: j 21 :: j 22 :: []), h ++ [.box (ofBytes a)]⟩) ⟨_, s, by simp, by omega, junk rfl⟩ ?_
  rintro k st hk ⟨v, q, hv, hq, j, rfl⟩
  have hvl : v ≤ b.toNat := by rw [hv]; exact Nat.div_le_self _ _
  by_cases hks : k < s
  · have h0 : (0 : Int) < q := by omega
    have f1 : IntKind.i64.wrap ((v / 2 : Nat) : Int) = ((v / 2 : Nat) : Int) := w_i64 (by omega) (by omega)
    have f2 : IntKind.i64.wrap ((q : Int) - 1) = ((q - 1 : Nat) : Int) := by rw [w_i64 (by omega) (by omega)]; omega
    simp (disch := first | omega | (simp only [List.length_append, List.length_cons, List.length_nil]; omega)) only [c83r0, c83r1, c83r2, c83r3, c83r4, c83r5, c83l6, c83r7, h0, f1, f2, go_sem, fill_c, ↓reduceIte, reduceCtorEq, Nat.reduceAdd, Nat.reduceSub, Nat.reducePow, Nat.reduceMul, Nat.reduceEqDiff, Nat.reduceLT, Nat.reduceLeDiff, Int.reduceToNat, Int.reduceLT, Int.reduceLE, Int.reduceEq, Int.reduceNeg, Int.reduceAdd, Int.reduceSub, Int.reduceMul]
    refine ⟨hks, v / 2, q - 1, ?_, by omega, junk rfl⟩
    rw [hv, Nat.pow_succ, Nat.div_div_eq_div_mul]
  · have h0 : ¬ (0 : Int) < q := by omega
    have : k = s := by omega
    subst this
    have f1 : IntKind.i64.wrap ((v % 2 : Nat) : Int) = ((v % 2 : Nat) : Int) := w_i64 (by omega) (by omega)
    simp (disch := first | omega | (simp only [List.length_append, List.length_cons, List.length_nil]; omega)) only [c83r0, c83r1, c83r2, c83r3, c83r4, c83r5, c83l6, c83r7, h0, f1, go_sem, fill_c, ↓reduceIte, reduceCtorEq, Nat.reduceAdd, Nat.reduceSub, Nat.reducePow, Nat.reduceMul, Nat.reduceEqDiff, Nat.reduceLT, Nat.reduceLeDiff, Int.reduceToNat, Int.reduceLT, Int.reduceLE, Int.reduceEq, Int.reduceNeg, Int.reduceAdd, Int.reduceSub, Int.reduceMul]
    rw [hv]
    exact FinOk.drop (.inl rfl) (by simp [underL, underD]) ⟨rfl, rfl⟩

theorem or_add8 : ∀ (x : Fin 256) (s : Fin 8), x.val / 2 ^ s.val % 2 = 0 → x.val + 2 ^ s.val = x.val ||| 2 ^ s.val := by decide +kernel
theorem or_same8 : ∀ (x : Fin 256) (s : Fin 8), ¬ x.val / 2 ^ s.val % 2 = 0 → x.val ||| 2 ^ s.val = x.val := by decide +kernel
theorem setA_same {a : List UInt8} {i : Nat} (h : bitN a i = 1) : setA a i = a := by
  have hb := (a.getD (i / 8) 0).toNat_lt
  have h1 : (a.getD (i / 8) 0).toNat / 2 ^ (7 - i % 8) % 2 = 1 := h
  have h2 := or_same8 ⟨(a.getD (i / 8) 0).toNat, hb⟩ ⟨7 - i % 8, by omega⟩ (by simp only; omega)
  simp only at h2
  unfold setA
  rw [h2]
  refine bytes_ext (by simp) fun k hk => ?_
  rw [getD_set8]
  split
  · rename_i hc
    obtain ⟨rfl, _⟩ := hc
    apply UInt8.toNat_inj.1
    exact UInt8.toNat_ofNat_of_lt' hb
  · rfl
theorem set_fcR (h : Heap) (a : List UInt8) (ha : a.length = 16) (i : Nat) (hi : i < 128) : FC Try.prog 62 [.agg (ofBytes a), .int .i64 (i : Int)] h fun d h' => d = .agg (ofBytes (setA a i)) ∧ h' = h := by
  have hal : (ofBytes a).length = 16 := by rw [ofBytes_length, ha]
  have p7 : List.take 16 (ofBytes a) = ofBytes a := List.take_of_length_le (by omega)
  refine FC.goes cf62 ?_; simp only [c62]; simp only [List.length_cons, List.length_nil, Nat.reduceAdd, Nat.reduceSub, List.replicate_succ, List.replicate_zero, List.cons_append, List.nil_append]
  simp (disch := first | omega | (simp only [List.length_append, List.length_cons, List.length_nil]; omega)) only [c62r0, c62r1, c62r2, c62r3, c62r4, c62r5, c62r6, c62r7, c62l8, c62r9, c62r10, p7, hal, go_sem, fill_c, ↓reduceIte, reduceCtorEq, Nat.reduceAdd, Nat.reduceSub, Nat.reducePow, Nat.reduceMul, Nat.reduceEqDiff, Nat.reduceLT, Nat.reduceLeDiff, Int.reduceToNat, Int.reduceLT, Int.reduceLE, Int.reduceEq, Int.reduceNeg, Int.reduceAdd, Int.reduceSub, Int.reduceMul]
  refine gfc_of (rbit_fc _ a ha i hi) ?_
  rintro d h' ⟨rfl, e⟩
  rw [e]
  by_cases hb1 : bitN a i = 1
  · rw [hb1, setA_same hb1]
    simp (disch := first | omega | (simp only [List.length_append, List.length_cons, List.length_nil]; omega)) only [p7, hal, go_sem, fill_c, ↓reduceIte, reduceCtorEq, Nat.reduceAdd, Nat.reduceSub, Nat.reducePow, Nat.reduceMul, Nat.reduceEqDiff, Nat.reduceLT, Nat.reduceLeDiff, Int.reduceToNat, Int.reduceLT, Int.reduceLE, Int.reduceEq, Int.reduceNeg, Int.reduceAdd, Int.reduceSub, Int.reduceMul]
    exact FinOk.drop (.inl rfl) (by simp [underL, underD, under_bytes]) ⟨rfl, rfl⟩
  · have hb1' : ¬ ((bitN a i : Nat) : Int) = 1 := by omega
    have e1 : IntKind.i64.wrap ((i / 8 : Nat) : Int) = ((i / 8 : Nat) : Int) := w_i64 (by omega) (by omega)
    have e2 : IntKind.i64.wrap ((i % 8 : Nat) : Int) = ((i % 8 : Nat) : Int) := w_i64 (by omega) (by omega)
    have e3 : IntKind.i64.wrap (7 - ((i % 8 : Nat) : Int)) = ((7 - i % 8 : Nat) : Int) := by rw [w_i64 (by omega) (by omega)]; omega
    simp (disch := first | omega | (simp only [List.length_append, List.length_cons, List.length_nil]; omega)) only [hb1', e1, e2, e3, go_sem, fill_c, ↓reduceIte, reduceCtorEq, Nat.reduceAdd, Nat.reduceSub, Nat.reducePow, Nat.reduceMul, Nat.reduceEqDiff, Nat.reduceLT, Nat.reduceLeDiff, Int.reduceToNat, Int.reduceLT, Int.reduceLE, Int.reduceEq, Int.reduceNeg, Int.reduceAdd, Int.reduceSub, Int.reduceMul]
    have hi8 : i / 8 < 16 := by omega
    have hg := byte_at ha hi8
    have hb := (a.getD (i / 8) 0).toNat_lt
    have hbn : bitN a i = (a.getD (i / 8) 0).toNat / 2 ^ (7 - i % 8) % 2 := rfl
    have h2 := or_add8 ⟨(a.getD (i / 8) 0).toNat, hb⟩ ⟨7 - i % 8, by omega⟩ (by simp only; omega)
    simp only at h2
    have hsA : setA a i = a.set (i / 8) (UInt8.ofNat ((a.getD (i / 8) 0).toNat ||| 2 ^ (7 - i % 8))) := rfl
    have hol := or_lt (a.getD (i / 8) 0) (s := 7 - i % 8) (by omega)
    have hbt : (UInt8.ofNat ((a.getD (i / 8) 0).toNat ||| 2 ^ (7 - i % 8))).toNat = (a.getD (i / 8) 0).toNat ||| 2 ^ (7 - i % 8) := UInt8.toNat_ofNat_of_lt' hol
    have hs : 7 - i % 8 ≤ 7 := by omega
    generalize 7 - i % 8 = s at *
    generalize a.getD (i / 8) 0 = b at *
    refine loop_to s (fun k st => ∃ (q : Nat), q + k = s ∧ ∃ (j : Nat → D), st = ⟨(j 0 :: .int .i64 (i : Int) :: .ref h.length 0 :: j 3 :: .ref (h.length + 1) 0 :: .int .i64 ((2 ^ k : Nat) : Int) :: .int .i64 (q : Int) :: j 7 :: j 8 :: j 9 :: j 10 :: j 11 :: j 12 :: j 13 :: j 14 :: j 15 :: j 16 :: j 17 :: j 18 :: j 19 :: j 20 :: j 21 :: j 22 :: j 23 :: j 24 :: j 25 :: j 26 :: j 27 :: j 28 :: j 29 :: j 30 :: j 31 :: j 32 :: []), h ++ [.box (ofBytes a), .box (List.replicate 16 (.int .u8 0))]⟩) ⟨s, by omega, junk rfl⟩ ?_
    rintro k st hk ⟨q, hq, j, rfl⟩
    have hpk : 2 ^ k ≤ 128 := Nat.le_trans (Nat.pow_le_pow_right (n := 2) (by omega) (by omega : k ≤ 7)) (by decide)
    by_cases hks : k < s
    · have h0 : (0 : Int) < q := by omega
      have f1 : IntKind.i64.wrap (((2 ^ k : Nat) : Int) * 2) = ((2 ^ (k + 1) : Nat) : Int) := by
        rw [Nat.pow_succ]
        generalize 2 ^ k = x at hpk ⊢
        rw [w_i64 (by omega) (by omega)]; omega
      have f2 : IntKind.i64.wrap ((q : Int) - 1) = ((q - 1 : Nat) : Int) := by rw [w_i64 (by omega) (by omega)]; omega
      simp (disch := first | omega | (simp only [List.length_append, List.length_cons, List.length_nil]; omega)) only [c62r0, c62r1, c62r2, c62r3, c62r4, c62r5, c62r6, c62r7, c62l8, c62r9, c62r10, h0, f1, f2, go_sem, fill_c, ↓reduceIte, reduceCtorEq, Nat.reduceAdd, Nat.reduceSub, Nat.reducePow, Nat.reduceMul, Nat.reduceEqDiff, Nat.reduceLT, Nat.reduceLeDiff, Int.reduceToNat, Int.reduceLT, Int.reduceLE, Int.reduceEq, Int.reduceNeg, Int.reduceAdd, Int.reduceSub, Int.reduceMul]
      exact ⟨hks, q - 1, by omega, junk rfl⟩
    · have h0 : ¬ (0 : Int) < q := by omega
      have : k = s := by omega
      subst this
      have f3 : IntKind.i64.wrap (b.toNat : Int) = (b.toNat : Int) := w_i64 (by omega) (by omega)
      have f4 : IntKind.i64.wrap ((b.toNat : Int) + ((2 ^ k : Nat) : Int)) = ((b.toNat ||| 2 ^ k : Nat) : Int) := by rw [← h2, w_i64 (by omega) (by omega)]; omega
      have f5 : IntKind.u8.wrap ((b.toNat ||| 2 ^ k : Nat) : Int) = ((b.toNat ||| 2 ^ k : Nat) : Int) := w_u8 (by omega) (by omega)
      have hput := ofBytes_put a (i / 8) (UInt8.ofNat (b.toNat ||| 2 ^ k))
      rw [hbt, ← hsA] at hput
      have p8 : List.take 16 (ofBytes (setA a i)) = ofBytes (setA a i) := List.take_of_length_le (by rw [ofBytes_length, setA_length, ha]; exact Nat.le_refl _)
      have hsl : (ofBytes (setA a i)).length = 16 := by rw [ofBytes_length, setA_length, ha]
      have hput' := hput.symm
      simp (disch := first | omega | (simp only [List.length_append, List.length_cons, List.length_nil]; omega)) only [c62r0, c62r1, c62r2, c62r3, c62r4, c62r5, c62r6, c62r7, c62l8, c62r9, c62r10, h0, e1, hg, hal, f3, f4, f5, hput', p8, hsl, go_sem, fill_c, ↓reduceIte, reduceCtorEq, Nat.reduceAdd, Nat.reduceSub, Nat.reducePow, Nat.reduceMul, Nat.reduceEqDiff, Nat.reduceLT, Nat.reduceLeDiff, Int.reduceToNat, Int.reduceLT, Int.reduceLE, Int.reduceEq, Int.reduceNeg, Int.reduceAdd, Int.reduceSub, Int.reduceMul]
      exact FinOk.drop (.inl rfl) (by simp [underL, underD, under_bytes]) ⟨rfl, rfl⟩

theorem rfront_fc (h : Heap) (a : List UInt8) (ha : a.length = 16) (n : Nat) (hn : n ≤ 128) : FC Try.prog 59 [.agg (ofBytes a), .int .i64 (n : Int)] h fun d h' => d = .agg (ofBytes (frontTo a n)) ∧ h' = h := by
  have hal : (ofBytes a).length = 16 := by rw [ofBytes_length, ha]
  have p7 : List.take 16 (ofBytes a) = ofBytes a := List.take_of_length_le (by omega)
  have hz : List.replicate 16 (D.int .u8 0) = ofBytes (frontTo a 0) := rfl
  refine FC.goes cf59 ?_; simp only [c59]; simp only [List.length_cons, List.length_nil, Nat.reduceAdd, Nat.reduceSub, List.replicate_succ, List.replicate_zero, List.cons_append, List.nil_append]
  simp (disch := first | omega | (simp only [List.length_append, List.length_cons, List.length_nil]; omega)) only [c59r0, c59r1, c59r2, c59r3, c59r4, c59r5, c59r6, c59l7, c59r8, go_sem, fill_c, ↓reduceIte, reduceCtorEq, Nat.reduceAdd, Nat.reduceSub, Nat.reducePow, Nat.reduceMul, Nat.reduceEqDiff, Nat.reduceLT, Nat.reduceLeDiff, Int.reduceToNat, Int.reduceLT, Int.reduceLE, Int.reduceEq, Int.reduceNeg, Int.reduceAdd, Int.reduceSub, Int.reduceMul]
  refine loop_to n (fun k st => ∃ (j : Nat → D), st = ⟨(j 0 :: .int .i64 (n : Int) :: .ref h.length 0 :: j 3 :: .ref (h.length + 1) 0 :: .ref (h.length + 2) 0 :: .int .i64 (k : Int) :: j 7 :: j 8 :: j 9 :: j 10 :: j 11 :: j 12 :: j 13 :: j 14 :: j 15 :: j 16 :: j 17 :: j 18 :: j 19 :: []), h ++ [.box (ofBytes a), .box (List.replicate 16 (.int .u8 0)), .box (ofBytes (frontTo a k))]⟩) (by rw [← hz]; exact junk rfl) ?_
  rintro k st hk ⟨j, rfl⟩
  have hfl := frontTo_length a k
  have hfl2 : (ofBytes (frontTo a k)).length = 16 := by rw [ofBytes_length, hfl]
  have p8 : List.take 16 (ofBytes (frontTo a k)) = ofBytes (frontTo a k) := List.take_of_length_le (by omega)
  by_cases hkn : k < n
  · have hkn' : (k : Int) < n := by omega
    have e5 : IntKind.i64.wrap ((k : Int) + 1) = ((k + 1 : Nat) : Int) := by rw [w_i64 (by omega) (by omega)]; omega
    have hstep : frontTo a (k + 1) = if abit a k then setA (frontTo a k) k else frontTo a k := rfl
    simp (disch := first | omega | (simp only [List.length_append, List.length_cons, List.length_nil]; omega)) only [c59r0, c59r1, c59r2, c59r3, c59r4, c59r5, c59r6, c59l7, c59r8, hkn', p7, hal, go_sem, fill_c, ↓reduceIte, reduceCtorEq, Nat.reduceAdd, Nat.reduceSub, Nat.reducePow, Nat.reduceMul, Nat.reduceEqDiff, Nat.reduceLT, Nat.reduceLeDiff, Int.reduceToNat, Int.reduceLT, Int.reduceLE, Int.reduceEq, Int.reduceNeg, Int.reduceAdd, Int.reduceSub, Int.reduceMul]
    refine gfc_of (rbit_fc _ a ha k (by omega)) ?_
    rintro d h' ⟨rfl, e⟩
    rw [e]
    by_cases hb : abit a k = true
    · have hbn : bitN a k = 1 := by rw [bitN_eq, hb]; rfl
      rw [hbn]
      simp (disch := first | omega | (simp only [List.length_append, List.length_cons, List.length_nil]; omega)) only [p8, hfl2, go_sem, fill_c, ↓reduceIte, reduceCtorEq, Nat.reduceAdd, Nat.reduceSub, Nat.reducePow, Nat.reduceMul, Nat.reduceEqDiff, Nat.reduceLT, Nat.reduceLeDiff, Int.reduceToNat, Int.reduceLT, Int.reduceLE, Int.reduceEq, Int.reduceNeg, Int.reduceAdd, Int.reduceSub, Int.reduceMul]
      refine gfc_of (set_fcR _ _ hfl k (by omega)) ?_
      rintro d h' ⟨rfl, e⟩
      rw [e]
      have hsl : (ofBytes (setA (frontTo a k) k)).length = 16 := by rw [ofBytes_length, setA_length, hfl]
      have p9 : List.take 16 (ofBytes (setA (frontTo a k) k)) = ofBytes (setA (frontTo a k) k) := List.take_of_length_le (by omega)
      simp (disch := first | omega | (simp only [List.length_append, List.length_cons, List.length_nil]; omega)) only [hsl, hfl2, p9, e5, go_sem, fill_c, ↓reduceIte, reduceCtorEq, Nat.reduceAdd, Nat.reduceSub, Nat.reducePow, Nat.reduceMul, Nat.reduceEqDiff, Nat.reduceLT, Nat.reduceLeDiff, Int.reduceToNat, Int.reduceLT, Int.reduceLE, Int.reduceEq, Int.reduceNeg, Int.reduceAdd, Int.reduceSub, Int.reduceMul]
      refine ⟨hkn, ?_⟩
      rw [hstep, if_pos hb]
      exact junk rfl
    · have hbn : bitN a k = 0 := by rw [bitN_eq, if_neg hb]
      rw [hbn]
      simp (disch := first | omega | (simp only [List.length_append, List.length_cons, List.length_nil]; omega)) only [e5, go_sem, fill_c, ↓reduceIte, reduceCtorEq, Nat.reduceAdd, Nat.reduceSub, Nat.reducePow, Nat.reduceMul, Nat.reduceEqDiff, Nat.reduceLT, Nat.reduceLeDiff, Int.reduceToNat, Int.reduceLT, Int.reduceLE, Int.reduceEq, Int.reduceNeg, Int.reduceAdd, Int.reduceSub, Int.reduceMul]
      refine ⟨hkn, ?_⟩
      rw [hstep, if_neg hb]
      exact junk rfl
  · have hkn' : ¬ (k : Int) < n := by omega
    have : k = n := by omega
    subst this
    simp (disch := first | omega | (simp only [List.length_append, List.length_cons, List.length_nil]; omega)) only [c59r0, c59r1, c59r2, c59r3, c59r4, c59r5, c59r6, c59l7, c59r8, hkn', p8, hfl2, go_sem, fill_c, ↓reduceIte, reduceCtorEq, Nat.reduceAdd, Nat.reduceSub, Nat.reducePow, Nat.reduceMul, Nat.reduceEqDiff, Nat.reduceLT, Nat.reduceLeDiff, Int.reduceToNat, Int.reduceLT, Int.reduceLE, Int.reduceEq, Int.reduceNeg, Int.reduceAdd, Int.reduceSub, Int.reduceMul]
    exact FinOk.drop (.inl rfl) (by simp [underL, underD, under_bytes]) ⟨rfl, rfl⟩

theorem mostR_fits {v n : Int} : fitsF v n = if mostR v < 0 then 4 else if n < 0 ∨ mostR v < n then 1 else 0 := by
  unfold fitsF mostR
  cases mostF v with
  | none => rfl
  | some m =>
    have : ¬ (m : Int) < 0 := by omega
    simp only [this, if_false]
theorem rcheck_fc (h : Heap) (v n : Int) (a : List UInt8) (ha : a.length = 16) : FC Try.prog 23 [prefD v a n] h fun d h' => d = .int .i64 (checkF v a n) ∧ h' = h := by
  have p1 := pr_take ha [.int .i64 n]
  have p2 := pr_drop ha [.int .i64 n]
  have p3 := pr_len ha (.int .i64 n)
  have p4 := pr_one a n
  have hfit := mostR_fits (v := v) (n := n)
  refine FC.goes cf23 ?_; simp only [c23]; simp only [List.length_cons, List.length_nil, Nat.reduceAdd, Nat.reduceSub, List.replicate_succ, List.replicate_zero, List.cons_append, List.nil_append]
  simp (disch := first | omega | (simp only [List.length_append, List.length_cons, List.length_nil]; omega)) only [c23r0, c23r1, c23r2, c23r3, c23r4, c23r5, c23r6, c23r7, c23r8, c23r9, prefD, p2, p3, p4, go_sem, fill_c, ↓reduceIte, reduceCtorEq, Nat.reduceAdd, Nat.reduceSub, Nat.reducePow, Nat.reduceMul, Nat.reduceEqDiff, Nat.reduceLT, Nat.reduceLeDiff, Int.reduceToNat, Int.reduceLT, Int.reduceLE, Int.reduceEq, Int.reduceNeg, Int.reduceAdd, Int.reduceSub, Int.reduceMul]
  refine gfc_of (rmost_fc _ v) ?_
  rintro d h' ⟨rfl, e⟩
  rw [e]
  by_cases hm : mostR v < 0
  · rw [if_pos hm] at hfit
    have hc : checkF v a n = 4 := by simp [checkF, hfit]
    rw [hc]
    simp (disch := first | omega | (simp only [List.length_append, List.length_cons, List.length_nil]; omega)) only [hm, go_sem, fill_c, ↓reduceIte, reduceCtorEq, Nat.reduceAdd, Nat.reduceSub, Nat.reducePow, Nat.reduceMul, Nat.reduceEqDiff, Nat.reduceLT, Nat.reduceLeDiff, Int.reduceToNat, Int.reduceLT, Int.reduceLE, Int.reduceEq, Int.reduceNeg, Int.reduceAdd, Int.reduceSub, Int.reduceMul]
    exact FinOk.drop (.inl rfl) (by simp [underL, underD]) ⟨rfl, rfl⟩
  · rw [if_neg hm] at hfit
    by_cases h0 : n < 0
    · rw [if_pos (.inl h0)] at hfit
      have hc : checkF v a n = 1 := by simp [checkF, hfit]
      rw [hc]
      simp (disch := first | omega | (simp only [List.length_append, List.length_cons, List.length_nil]; omega)) only [hm, h0, p2, go_sem, fill_c, ↓reduceIte, reduceCtorEq, Nat.reduceAdd, Nat.reduceSub, Nat.reducePow, Nat.reduceMul, Nat.reduceEqDiff, Nat.reduceLT, Nat.reduceLeDiff, Int.reduceToNat, Int.reduceLT, Int.reduceLE, Int.reduceEq, Int.reduceNeg, Int.reduceAdd, Int.reduceSub, Int.reduceMul]
      exact FinOk.drop (.inl rfl) (by simp [underL, underD]) ⟨rfl, rfl⟩
    · simp (disch := first | omega | (simp only [List.length_append, List.length_cons, List.length_nil]; omega)) only [hm, h0, p2, go_sem, fill_c, ↓reduceIte, reduceCtorEq, Nat.reduceAdd, Nat.reduceSub, Nat.reducePow, Nat.reduceMul, Nat.reduceEqDiff, Nat.reduceLT, Nat.reduceLeDiff, Int.reduceToNat, Int.reduceLT, Int.reduceLE, Int.reduceEq, Int.reduceNeg, Int.reduceAdd, Int.reduceSub, Int.reduceMul]
      refine xfc_of (rmost_fc _ v) ?_
      rintro d h' ⟨rfl, e⟩
      refine ⟨⟨[], by rw [e, List.append_nil]⟩, ?_⟩
      rw [e]
      by_cases h1 : mostR v < n
      · rw [if_pos (.inr h1)] at hfit
        have hc : checkF v a n = 1 := by simp [checkF, hfit]
        rw [hc]
        simp (disch := first | omega | (simp only [List.length_append, List.length_cons, List.length_nil]; omega)) only [h1, go_sem, fill_c, ↓reduceIte, reduceCtorEq, Nat.reduceAdd, Nat.reduceSub, Nat.reducePow, Nat.reduceMul, Nat.reduceEqDiff, Nat.reduceLT, Nat.reduceLeDiff, Int.reduceToNat, Int.reduceLT, Int.reduceLE, Int.reduceEq, Int.reduceNeg, Int.reduceAdd, Int.reduceSub, Int.reduceMul]
        exact FinOk.drop (.inl rfl) (by simp [underL, underD]) ⟨rfl, rfl⟩
      · rw [if_neg (by omega)] at hfit
        have hc : checkF v a n = if frontTo a n.toNat = a then 0 else 5 := by simp [checkF, hfit]
        obtain ⟨g0, g1⟩ := checkF_le hfit
        obtain ⟨k, rfl⟩ := Int.eq_ofNat_of_zero_le g0
        rw [show ((k : Int)).toNat = k from rfl] at hc
        rw [hc]
        simp (disch := first | omega | (simp only [List.length_append, List.length_cons, List.length_nil]; omega)) only [h1, p1, p2, p3, go_sem, fill_c, ↓reduceIte, reduceCtorEq, Nat.reduceAdd, Nat.reduceSub, Nat.reducePow, Nat.reduceMul, Nat.reduceEqDiff, Nat.reduceLT, Nat.reduceLeDiff, Int.reduceToNat, Int.reduceLT, Int.reduceLE, Int.reduceEq, Int.reduceNeg, Int.reduceAdd, Int.reduceSub, Int.reduceMul]
        refine xfc_of (rfront_fc _ a ha k (by omega)) ?_
        rintro d h' ⟨rfl, e⟩
        refine ⟨⟨[], by rw [e, List.append_nil]⟩, ?_⟩
        rw [e]
        have hfl := frontTo_length a k
        by_cases he : frontTo a k = a
        · rw [he]
          simp (disch := first | omega | (simp only [List.length_append, List.length_cons, List.length_nil]; omega)) only [ha, go_sem, fill_c, ↓reduceIte, reduceCtorEq, Nat.reduceAdd, Nat.reduceSub, Nat.reducePow, Nat.reduceMul, Nat.reduceEqDiff, Nat.reduceLT, Nat.reduceLeDiff, Int.reduceToNat, Int.reduceLT, Int.reduceLE, Int.reduceEq, Int.reduceNeg, Int.reduceAdd, Int.reduceSub, Int.reduceMul]
          exact FinOk.drop (.inl rfl) (by simp [underL, underD]) ⟨rfl, rfl⟩
        · simp (disch := first | omega | (simp only [List.length_append, List.length_cons, List.length_nil]; omega)) only [he, hfl, ha, go_sem, fill_c, ↓reduceIte, reduceCtorEq, Nat.reduceAdd, Nat.reduceSub, Nat.reducePow, Nat.reduceMul, Nat.reduceEqDiff, Nat.reduceLT, Nat.reduceLeDiff, Int.reduceToNat, Int.reduceLT, Int.reduceLE, Int.reduceEq, Int.reduceNeg, Int.reduceAdd, Int.reduceSub, Int.reduceMul]
          exact FinOk.drop (.inl rfl) (by simp [underL, underD]) ⟨rfl, rfl⟩

theorem rhas_fc (h : Heap) (p n v : Int) (a b : List UInt8) (ha : a.length = 16) (hb : b.length = 16) : FC Try.prog 28 [prefD p a n, .int .i64 v, .agg (ofBytes b)] h fun d h' => d = .bool (hasF p a n v b) ∧ h' = h := by
  have p1 := pr_take ha [.int .i64 n]
  have p2 := pr_drop ha [.int .i64 n]
  have p3 := pr_len ha (.int .i64 n)
  have p4 := pr_one a n
  have p6 : List.take 17 (ofBytes a ++ [D.int .i64 n]) = ofBytes a ++ [D.int .i64 n] := List.take_of_length_le (by omega)
  have hbl : (ofBytes b).length = 16 := by rw [ofBytes_length, hb]
  have p7 : List.take 16 (ofBytes b) = ofBytes b := List.take_of_length_le (by omega)
  have er := rcheck_fc
  unfold prefD at er
  refine FC.goes cf28 ?_; simp only [c28]; simp only [List.length_cons, List.length_nil, Nat.reduceAdd, Nat.reduceSub, List.replicate_succ, List.replicate_zero, List.cons_append, List.nil_append]
  simp (disch := first | omega | (simp only [List.length_append, List.length_cons, List.length_nil]; omega)) only [c28r0, c28r1, c28r2, prefD, p2, p3, p4, p6, go_sem, fill_c, ↓reduceIte, reduceCtorEq, Nat.reduceAdd, Nat.reduceSub, Nat.reducePow, Nat.reduceMul, Nat.reduceEqDiff, Nat.reduceLT, Nat.reduceLeDiff, Int.reduceToNat, Int.reduceLT, Int.reduceLE, Int.reduceEq, Int.reduceNeg, Int.reduceAdd, Int.reduceSub, Int.reduceMul]
  refine xfc_of (er _ p n a ha) ?_
  rintro d h' ⟨rfl, e⟩
  refine ⟨⟨[], by rw [e, List.append_nil]⟩, ?_⟩
  rw [e]
  by_cases hc : checkF p a n = 0
  · have hf : fitsF p n = 0 := by
      unfold checkF at hc
      split at hc
      · rename_i h1; exact absurd hc h1
      · rename_i h1; simpa using h1
    obtain ⟨h0, h1⟩ := checkF_le hf
    obtain ⟨k, rfl⟩ := Int.eq_ofNat_of_zero_le h0
    by_cases hv : v = p
    · subst hv
      simp (disch := first | omega | (simp only [List.length_append, List.length_cons, List.length_nil]; omega)) only [hc, p1, p2, p3, p7, hbl, go_sem, fill_c, ↓reduceIte, reduceCtorEq, Nat.reduceAdd, Nat.reduceSub, Nat.reducePow, Nat.reduceMul, Nat.reduceEqDiff, Nat.reduceLT, Nat.reduceLeDiff, Int.reduceToNat, Int.reduceLT, Int.reduceLE, Int.reduceEq, Int.reduceNeg, Int.reduceAdd, Int.reduceSub, Int.reduceMul]
      refine xfc_of (rfront_fc _ b hb k (by omega)) ?_
      rintro d h' ⟨rfl, e⟩
      refine ⟨⟨[], by rw [e, List.append_nil]⟩, ?_⟩
      rw [e]
      have hfl := frontTo_length b k
      have hh : hasF v a (k : Int) v b = decide (frontTo b k = a) := by simp [hasF, hc]
      rw [hh]
      simp (disch := first | omega | (simp only [List.length_append, List.length_cons, List.length_nil]; omega)) only [hfl, ha, go_sem, fill_c, ↓reduceIte, reduceCtorEq, Nat.reduceAdd, Nat.reduceSub, Nat.reducePow, Nat.reduceMul, Nat.reduceEqDiff, Nat.reduceLT, Nat.reduceLeDiff, Int.reduceToNat, Int.reduceLT, Int.reduceLE, Int.reduceEq, Int.reduceNeg, Int.reduceAdd, Int.reduceSub, Int.reduceMul]
      exact FinOk.drop (.inl rfl) (by simp [underL, underD]) ⟨rfl, rfl⟩
    · have hh : hasF p a (k : Int) v b = false := by simp [hasF, hv]
      rw [hh]
      simp (disch := first | omega | (simp only [List.length_append, List.length_cons, List.length_nil]; omega)) only [hc, p2, hv, go_sem, fill_c, ↓reduceIte, reduceCtorEq, Nat.reduceAdd, Nat.reduceSub, Nat.reducePow, Nat.reduceMul, Nat.reduceEqDiff, Nat.reduceLT, Nat.reduceLeDiff, Int.reduceToNat, Int.reduceLT, Int.reduceLE, Int.reduceEq, Int.reduceNeg, Int.reduceAdd, Int.reduceSub, Int.reduceMul]
      exact FinOk.drop (.inl rfl) (by simp [underL, underD]) ⟨rfl, rfl⟩
  · have hh : hasF p a n v b = false := by simp [hasF, hc]
    rw [hh]
    simp (disch := first | omega | (simp only [List.length_append, List.length_cons, List.length_nil]; omega)) only [hc, go_sem, fill_c, ↓reduceIte, reduceCtorEq, Nat.reduceAdd, Nat.reduceSub, Nat.reducePow, Nat.reduceMul, Nat.reduceEqDiff, Nat.reduceLT, Nat.reduceLeDiff, Int.reduceToNat, Int.reduceLT, Int.reduceLE, Int.reduceEq, Int.reduceNeg, Int.reduceAdd, Int.reduceSub, Int.reduceMul]
    exact FinOk.drop (.inl rfl) (by simp [underL, underD]) ⟨rfl, rfl⟩

/-- The prefix of so many bits. -/
theorem rmake_fc (h : Heap) (v : Int) (a : List UInt8) (ha : a.length = 16) (n : Nat) (hf : fitsF v (n : Int) = 0) : FC Try.prog 18 [.int .i64 v, .agg (ofBytes a), .int .i64 (n : Int)] h fun d h' => d = .tup [prefD v (frontTo a n) (n : Int), .int .i64 0] ∧ h' = h := by
  have hfit := mostR_fits (v := v) (n := (n : Int))
  rw [hf] at hfit
  have hm : ¬ mostR v < 0 := by
    intro h; rw [if_pos h] at hfit; cases hfit
  rw [if_neg hm] at hfit
  have h1 : ¬ mostR v < (n : Int) := by
    intro h; rw [if_pos (.inr h)] at hfit; cases hfit
  obtain ⟨_, hn⟩ := checkF_le hf
  have hal : (ofBytes a).length = 16 := by rw [ofBytes_length, ha]
  have p7 : List.take 16 (ofBytes a) = ofBytes a := List.take_of_length_le (by omega)
  have hfl := frontTo_length a n
  have p1 := pr_take hfl [.int .i64 (n : Int)]
  have p2 := pr_drop hfl [.int .i64 (n : Int)]
  have p3 := pr_len hfl (.int .i64 (n : Int))
  have p4 := pr_one (frontTo a n) (n : Int)
  have hfl2 : (ofBytes (frontTo a n)).length = 16 := by rw [ofBytes_length, hfl]
  refine FC.goes cf18 ?_; simp only [c18]; simp only [List.length_cons, List.length_nil, Nat.reduceAdd, Nat.reduceSub, List.replicate_succ, List.replicate_zero, List.cons_append, List.nil_append]
  simp (disch := first | omega | (simp only [List.length_append, List.length_cons, List.length_nil]; omega)) only [c18r0, c18r1, c18r2, c18r3, c18r4, c18r5, go_sem, fill_c, ↓reduceIte, reduceCtorEq, Nat.reduceAdd, Nat.reduceSub, Nat.reducePow, Nat.reduceMul, Nat.reduceEqDiff, Nat.reduceLT, Nat.reduceLeDiff, Int.reduceToNat, Int.reduceLT, Int.reduceLE, Int.reduceEq, Int.reduceNeg, Int.reduceAdd, Int.reduceSub, Int.reduceMul]
  refine gfc_of (rmost_fc _ v) ?_
  rintro d h' ⟨rfl, e⟩
  rw [e]
  have h0 : ¬ (n : Int) < 0 := by omega
  simp (disch := first | omega | (simp only [List.length_append, List.length_cons, List.length_nil]; omega)) only [hm, h0, go_sem, fill_c, ↓reduceIte, reduceCtorEq, Nat.reduceAdd, Nat.reduceSub, Nat.reducePow, Nat.reduceMul, Nat.reduceEqDiff, Nat.reduceLT, Nat.reduceLeDiff, Int.reduceToNat, Int.reduceLT, Int.reduceLE, Int.reduceEq, Int.reduceNeg, Int.reduceAdd, Int.reduceSub, Int.reduceMul]
  refine gfc_of (rmost_fc _ v) ?_
  rintro d h' ⟨rfl, e⟩
  rw [e]
  simp (disch := first | omega | (simp only [List.length_append, List.length_cons, List.length_nil]; omega)) only [h1, p7, hal, go_sem, fill_c, ↓reduceIte, reduceCtorEq, Nat.reduceAdd, Nat.reduceSub, Nat.reducePow, Nat.reduceMul, Nat.reduceEqDiff, Nat.reduceLT, Nat.reduceLeDiff, Int.reduceToNat, Int.reduceLT, Int.reduceLE, Int.reduceEq, Int.reduceNeg, Int.reduceAdd, Int.reduceSub, Int.reduceMul]
  refine gfc_of (rfront_fc _ a ha n (by omega)) ?_
  rintro d h' ⟨rfl, e⟩
  rw [e]
  have hsp : splice [D.int .i64 v, .int .u8 0, .int .u8 0, .int .u8 0, .int .u8 0, .int .u8 0, .int .u8 0, .int .u8 0, .int .u8 0, .int .u8 0, .int .u8 0, .int .u8 0, .int .u8 0, .int .u8 0, .int .u8 0, .int .u8 0, .int .u8 0, .int .i64 0] 1 (ofBytes (frontTo a n)) = .int .i64 v :: (ofBytes (frontTo a n) ++ [.int .i64 0]) := by
    rw [splice_eq _ _ _ (by rw [hfl2]; simp), hfl2]; rfl
  have hst : (ofBytes (frontTo a n) ++ [D.int .i64 0]).set 16 (.int .i64 (n : Int)) = ofBytes (frontTo a n) ++ [.int .i64 (n : Int)] := by
    rw [List.set_append_right _ _ (by omega), hfl2]; rfl
  have p3' := pr_len hfl (.int .i64 0)
  have p6 : List.take 17 (ofBytes (frontTo a n) ++ [D.int .i64 (n : Int)]) = ofBytes (frontTo a n) ++ [D.int .i64 (n : Int)] := List.take_of_length_le (by omega)
  simp (disch := first | omega | (simp only [List.length_append, List.length_cons, List.length_nil]; omega)) only [fillD, splice0, hfl2, hsp, hst, p4, p3, p3', p6, go_sem, fill_c, ↓reduceIte, reduceCtorEq, Nat.reduceAdd, Nat.reduceSub, Nat.reducePow, Nat.reduceMul, Nat.reduceEqDiff, Nat.reduceLT, Nat.reduceLeDiff, Int.reduceToNat, Int.reduceLT, Int.reduceLE, Int.reduceEq, Int.reduceNeg, Int.reduceAdd, Int.reduceSub, Int.reduceMul]
  exact FinOk.drop (.inl rfl) (by simp [underL, underD, under_app, under_bytes]) ⟨rfl, rfl⟩
end Go.Proofs
