/-
  Own work. Within and Meet, the program's and the document's.
-/
import Derived.Test.YtodlpcoffmnmbaaDoorPc
import Derived.Test.YtodlpcoffmnmbaaDoorPe
import Derived.Test.YtodlpcoffmnmbaaDoorB0
namespace Go.Proofs
open Go Go.YtodlpcoffmnmbaaDoor
set_option linter.unusedVariables false
set_option linter.unusedSimpArgs false
set_option maxRecDepth 10000

/-! ### weighbridge/prefix.Within, params 2 -/
def c24r0 : List AStm := [.op (some 2) none (.box (.t 0)),
    .op (some 3) none (.box (.t 1)),
    .op (some 4) none (.mv (.c (.bool false)))]
def c24r1 : List AStm := [.op (some 5) none (.load (some 18) (.t 2)),
    .call (some 6) none (.c (.fn (.func 42) [] [])) [(.t 5)],
    .op (some 7) none (.mv (.t 6)),
    .op (some 8) (some (7, true)) (.faddr 17 (.t 2)),
    .op (some 9) (some (7, true)) (.load none (.t 8)),
    .op (some 10) (some (7, true)) (.faddr 17 (.t 3)),
    .op (some 11) (some (7, true)) (.load none (.t 10)),
    .op (some 12) (some (7, true)) (.bin .geq (.t 9) (.t 11)),
    .op (some 13) none (.pick (.t 7) (.t 12) (.c (.bool false))),
    .op (some 14) none (.mv (.t 13)),
    .op (some 15) (some (14, true)) (.load (some 18) (.t 3)),
    .op (some 16) (some (14, true)) (.faddr 0 (.t 2)),
    .op (some 17) (some (14, true)) (.load none (.t 16)),
    .op (some 18) (some (14, true)) (.faddr 1 (.t 2)),
    .op (some 19) (some (14, true)) (.load (some 16) (.t 18)),
    .call (some 20) (some (14, true)) (.c (.fn (.func 43) [] [])) [(.t 15), (.t 17), (.t 19)],
    .op (some 21) none (.pick (.t 14) (.t 20) (.c (.bool false))),
    .op (some 4) none (.mv (.t 21))]
def c24 : CF := ⟨.seq (.reg c24r0) (.seq (.reg c24r1) (.ret)), [.tmp 4], 22⟩
theorem cf24 : cfun Tryd.prog 24 = some c24 := by kernel_rfl

/-! ### weighbridge/prefix.Meet, params 2 -/
def c36r0 : List AStm := [.op (some 2) none (.box (.t 0)),
    .op (some 3) none (.box (.t 1)),
    .op (some 4) none (.mv (.c (.bool false)))]
def c36r1 : List AStm := [.op (some 5) none (.load (some 18) (.t 2)),
    .op (some 6) none (.load (some 18) (.t 3)),
    .call (some 7) none (.c (.fn (.func 24) [] [])) [(.t 5), (.t 6)],
    .op (some 8) none (.mv (.t 7)),
    .op (some 9) (some (8, false)) (.load (some 18) (.t 3)),
    .op (some 10) (some (8, false)) (.load (some 18) (.t 2)),
    .call (some 11) (some (8, false)) (.c (.fn (.func 24) [] [])) [(.t 9), (.t 10)],
    .op (some 12) none (.pick (.t 8) (.c (.bool true)) (.t 11)),
    .op (some 4) none (.mv (.t 12))]
def c36 : CF := ⟨.seq (.reg c36r0) (.seq (.reg c36r1) (.ret)), [.tmp 4], 13⟩
theorem cf36 : cfun Tryd.prog 36 = some c36 := by kernel_rfl

/-! ### weighbridge/weighbridgeref07.Within, params 2 -/
def c27r0 : List AStm := [.op (some 2) none (.box (.t 0)),
    .op (some 3) none (.box (.t 1)),
    .op (some 4) none (.mv (.c (.bool false)))]
def c27r1 : List AStm := [.op (some 5) none (.load (some 18) (.t 2)),
    .call (some 6) none (.c (.fn (.func 44) [] [])) [(.t 5)],
    .op (some 7) none (.bin .eql (.t 6) (.c (.int .i64 0))),
    .op (some 8) none (.mv (.t 7)),
    .op (some 9) (some (8, true)) (.faddr 17 (.t 2)),
    .op (some 10) (some (8, true)) (.load none (.t 9)),
    .op (some 11) (some (8, true)) (.faddr 17 (.t 3)),
    .op (some 12) (some (8, true)) (.load none (.t 11)),
    .op (some 13) (some (8, true)) (.bin .geq (.t 10) (.t 12)),
    .op (some 14) none (.pick (.t 8) (.t 13) (.c (.bool false))),
    .op (some 15) none (.mv (.t 14)),
    .op (some 16) (some (15, true)) (.load (some 18) (.t 3)),
    .op (some 17) (some (15, true)) (.faddr 0 (.t 2)),
    .op (some 18) (some (15, true)) (.load none (.t 17)),
    .op (some 19) (some (15, true)) (.faddr 1 (.t 2)),
    .op (some 20) (some (15, true)) (.load (some 16) (.t 19)),
    .call (some 21) (some (15, true)) (.c (.fn (.func 45) [] [])) [(.t 16), (.t 18), (.t 20)],
    .op (some 22) none (.pick (.t 15) (.t 21) (.c (.bool false))),
    .op (some 4) none (.mv (.t 22))]
def c27 : CF := ⟨.seq (.reg c27r0) (.seq (.reg c27r1) (.ret)), [.tmp 4], 23⟩
theorem cf27 : cfun Tryd.prog 27 = some c27 := by kernel_rfl



/-- A prefix's cells. -/
def pc (v : Int) (a : List UInt8) (n : Int) : List D := .int .i64 v :: (ofBytes a ++ [.int .i64 n])
theorem prefD_pc (v : Int) (a : List UInt8) (n : Int) : prefD v a n = .agg (pc v a n) := rfl
section
variable {v n : Int} {a : List UInt8}
theorem pc_len (ha : a.length = 16) : (pc v a n).length = 18 := by simp [pc, ofBytes_length, ha]
theorem pc_one : (pc v a n).all D.one = true := by
  have := pr_one a n
  simp only [pc, List.all_cons, this]; rfl
theorem pc_take (ha : a.length = 16) : (pc v a n).take 18 = pc v a n := List.take_of_length_le (by rw [pc_len ha]; omega)
theorem pc_v : (pc v a n)[0]? = some (.int .i64 v) := rfl
theorem pc_n (ha : a.length = 16) : (List.drop 17 (pc v a n))[0]? = some (.int .i64 n) := by
  have := pr_drop ha [.int .i64 n]
  simp only [pc, List.drop_succ_cons, this]; rfl
theorem pc_a (ha : a.length = 16) : List.take 16 (List.drop 1 (pc v a n)) = ofBytes a := by
  have := pr_take ha [.int .i64 n]
  simp only [pc, List.drop_succ_cons, List.drop_zero, this]
theorem pc_dl (ha : a.length = 16) : (List.drop 1 (pc v a n)).length = 17 := by rw [List.length_drop, pc_len ha]
theorem pc_under (k : Nat) : underL k (pc v a n) = true := by simp [pc, underL, underD, under_app, under_bytes]
end

theorem pwithin_fc (h : Heap) (v n w m : Int) (a b : List UInt8) (ha : a.length = 16) (hb : b.length = 16) :
    FC Tryd.prog 24 [.agg (pc v a n), .agg (pc w b m)] h fun d h' => d = .bool (withinF v a n w b m) ∧ h' = h := by
  have er := right_fc
  have eh := phas_fc
  simp only [prefD_pc] at er eh
  refine FC.goes cf24 ?_; simp only [c24]; simp only [List.length_cons, List.length_nil, Nat.reduceAdd, Nat.reduceSub, List.replicate_succ, List.replicate_zero, List.cons_append, List.nil_append]
  simp (disch := first | omega | (simp only [List.length_append, List.length_cons, List.length_nil]; omega)) only [c24r0, c24r1, pc_one, pc_len, ha, hb, pc_take, go_sem, fill_c, ↓reduceIte, reduceCtorEq, Nat.reduceAdd, Nat.reduceSub, Nat.reducePow, Nat.reduceMul, Nat.reduceEqDiff, Nat.reduceLT, Nat.reduceLeDiff, Int.reduceToNat, Int.reduceLT, Int.reduceLE, Int.reduceEq, Int.reduceNeg, Int.reduceAdd, Int.reduceSub, Int.reduceMul]
  refine gfc_of (er _ v n a ha) ?_
  rintro d h' ⟨rfl, e⟩
  rw [e]
  by_cases hc : checkF v a n = 0
  · by_cases hmn : m ≤ n
    · have hw : withinF v a n w b m = hasF w b m v a := by simp [withinF, hc, hmn]
      rw [hw]
      simp (disch := first | omega | (simp only [List.length_append, List.length_cons, List.length_nil]; omega)) only [hc, hmn, pc_one, pc_len, ha, hb, pc_take, pc_n, pc_v, pc_a, pc_dl, go_sem, fill_c, ↓reduceIte, reduceCtorEq, Nat.reduceAdd, Nat.reduceSub, Nat.reducePow, Nat.reduceMul, Nat.reduceEqDiff, Nat.reduceLT, Nat.reduceLeDiff, Int.reduceToNat, Int.reduceLT, Int.reduceLE, Int.reduceEq, Int.reduceNeg, Int.reduceAdd, Int.reduceSub, Int.reduceMul]
      refine gfc_of (eh _ w m v b a hb ha) ?_
      rintro d h' ⟨rfl, e⟩
      rw [e]
      simp (disch := first | omega | (simp only [List.length_append, List.length_cons, List.length_nil]; omega)) only [go_sem, fill_c, ↓reduceIte, reduceCtorEq, Nat.reduceAdd, Nat.reduceSub, Nat.reducePow, Nat.reduceMul, Nat.reduceEqDiff, Nat.reduceLT, Nat.reduceLeDiff, Int.reduceToNat, Int.reduceLT, Int.reduceLE, Int.reduceEq, Int.reduceNeg, Int.reduceAdd, Int.reduceSub, Int.reduceMul]
      exact FinOk.drop (.inl rfl) (by simp [underL, underD]) ⟨rfl, rfl⟩
    · have hw : withinF v a n w b m = false := by simp [withinF, hmn]
      rw [hw]
      simp (disch := first | omega | (simp only [List.length_append, List.length_cons, List.length_nil]; omega)) only [hc, hmn, pc_one, pc_len, ha, hb, pc_take, pc_n, pc_v, pc_a, pc_dl, go_sem, fill_c, ↓reduceIte, reduceCtorEq, Nat.reduceAdd, Nat.reduceSub, Nat.reducePow, Nat.reduceMul, Nat.reduceEqDiff, Nat.reduceLT, Nat.reduceLeDiff, Int.reduceToNat, Int.reduceLT, Int.reduceLE, Int.reduceEq, Int.reduceNeg, Int.reduceAdd, Int.reduceSub, Int.reduceMul]
      exact FinOk.drop (.inl rfl) (by simp [underL, underD]) ⟨rfl, rfl⟩
  · have hw : withinF v a n w b m = false := by simp [withinF, hc]
    rw [hw]
    simp (disch := first | omega | (simp only [List.length_append, List.length_cons, List.length_nil]; omega)) only [hc, go_sem, fill_c, ↓reduceIte, reduceCtorEq, Nat.reduceAdd, Nat.reduceSub, Nat.reducePow, Nat.reduceMul, Nat.reduceEqDiff, Nat.reduceLT, Nat.reduceLeDiff, Int.reduceToNat, Int.reduceLT, Int.reduceLE, Int.reduceEq, Int.reduceNeg, Int.reduceAdd, Int.reduceSub, Int.reduceMul]
    exact FinOk.drop (.inl rfl) (by simp [underL, underD]) ⟨rfl, rfl⟩
theorem rwithin_fc (h : Heap) (v n w m : Int) (a b : List UInt8) (ha : a.length = 16) (hb : b.length = 16) :
    FC Tryd.prog 27 [.agg (pc v a n), .agg (pc w b m)] h fun d h' => d = .bool (withinF v a n w b m) ∧ h' = h := by
  have er := rcheck_fc
  have eh := rhas_fc
  simp only [prefD_pc] at er eh
  refine FC.goes cf27 ?_; simp only [c27]; simp only [List.length_cons, List.length_nil, Nat.reduceAdd, Nat.reduceSub, List.replicate_succ, List.replicate_zero, List.cons_append, List.nil_append]
  simp (disch := first | omega | (simp only [List.length_append, List.length_cons, List.length_nil]; omega)) only [c27r0, c27r1, pc_one, pc_len, ha, hb, pc_take, go_sem, fill_c, ↓reduceIte, reduceCtorEq, Nat.reduceAdd, Nat.reduceSub, Nat.reducePow, Nat.reduceMul, Nat.reduceEqDiff, Nat.reduceLT, Nat.reduceLeDiff, Int.reduceToNat, Int.reduceLT, Int.reduceLE, Int.reduceEq, Int.reduceNeg, Int.reduceAdd, Int.reduceSub, Int.reduceMul]
  refine gfc_of (er _ v n a ha) ?_
  rintro d h' ⟨rfl, e⟩
  rw [e]
  by_cases hc : checkF v a n = 0
  · have e1 : decide (checkF v a n = 0) = true := decide_eq_true hc
    by_cases hmn : m ≤ n
    · have hw : withinF v a n w b m = hasF w b m v a := by simp [withinF, hc, hmn]
      rw [hw]
      simp (disch := first | omega | (simp only [List.length_append, List.length_cons, List.length_nil]; omega)) only [e1, hmn, pc_one, pc_len, ha, hb, pc_take, pc_n, pc_v, pc_a, pc_dl, go_sem, fill_c, ↓reduceIte, reduceCtorEq, Nat.reduceAdd, Nat.reduceSub, Nat.reducePow, Nat.reduceMul, Nat.reduceEqDiff, Nat.reduceLT, Nat.reduceLeDiff, Int.reduceToNat, Int.reduceLT, Int.reduceLE, Int.reduceEq, Int.reduceNeg, Int.reduceAdd, Int.reduceSub, Int.reduceMul]
      refine gfc_of (eh _ w m v b a hb ha) ?_
      rintro d h' ⟨rfl, e⟩
      rw [e]
      simp (disch := first | omega | (simp only [List.length_append, List.length_cons, List.length_nil]; omega)) only [go_sem, fill_c, ↓reduceIte, reduceCtorEq, Nat.reduceAdd, Nat.reduceSub, Nat.reducePow, Nat.reduceMul, Nat.reduceEqDiff, Nat.reduceLT, Nat.reduceLeDiff, Int.reduceToNat, Int.reduceLT, Int.reduceLE, Int.reduceEq, Int.reduceNeg, Int.reduceAdd, Int.reduceSub, Int.reduceMul]
      exact FinOk.drop (.inl rfl) (by simp [underL, underD]) ⟨rfl, rfl⟩
    · have hw : withinF v a n w b m = false := by simp [withinF, hmn]
      rw [hw]
      simp (disch := first | omega | (simp only [List.length_append, List.length_cons, List.length_nil]; omega)) only [e1, hmn, pc_one, pc_len, ha, hb, pc_take, pc_n, pc_v, pc_a, pc_dl, go_sem, fill_c, ↓reduceIte, reduceCtorEq, Nat.reduceAdd, Nat.reduceSub, Nat.reducePow, Nat.reduceMul, Nat.reduceEqDiff, Nat.reduceLT, Nat.reduceLeDiff, Int.reduceToNat, Int.reduceLT, Int.reduceLE, Int.reduceEq, Int.reduceNeg, Int.reduceAdd, Int.reduceSub, Int.reduceMul]
      exact FinOk.drop (.inl rfl) (by simp [underL, underD]) ⟨rfl, rfl⟩
  · have hw : withinF v a n w b m = false := by simp [withinF, hc]
    rw [hw]
    simp (disch := first | omega | (simp only [List.length_append, List.length_cons, List.length_nil]; omega)) only [hc, go_sem, fill_c, ↓reduceIte, reduceCtorEq, Nat.reduceAdd, Nat.reduceSub, Nat.reducePow, Nat.reduceMul, Nat.reduceEqDiff, Nat.reduceLT, Nat.reduceLeDiff, Int.reduceToNat, Int.reduceLT, Int.reduceLE, Int.reduceEq, Int.reduceNeg, Int.reduceAdd, Int.reduceSub, Int.reduceMul]
    exact FinOk.drop (.inl rfl) (by simp [underL, underD]) ⟨rfl, rfl⟩
theorem pmeet_fc (h : Heap) (v n w m : Int) (a b : List UInt8) (ha : a.length = 16) (hb : b.length = 16) :
    FC Tryd.prog 36 [.agg (pc v a n), .agg (pc w b m)] h fun d h' => d = .bool (withinF v a n w b m || withinF w b m v a n) ∧ h' = h := by
  refine FC.goes cf36 ?_; simp only [c36]; simp only [List.length_cons, List.length_nil, Nat.reduceAdd, Nat.reduceSub, List.replicate_succ, List.replicate_zero, List.cons_append, List.nil_append]
  simp (disch := first | omega | (simp only [List.length_append, List.length_cons, List.length_nil]; omega)) only [c36r0, c36r1, pc_one, pc_len, ha, hb, pc_take, go_sem, fill_c, ↓reduceIte, reduceCtorEq, Nat.reduceAdd, Nat.reduceSub, Nat.reducePow, Nat.reduceMul, Nat.reduceEqDiff, Nat.reduceLT, Nat.reduceLeDiff, Int.reduceToNat, Int.reduceLT, Int.reduceLE, Int.reduceEq, Int.reduceNeg, Int.reduceAdd, Int.reduceSub, Int.reduceMul]
  refine gfc_of (pwithin_fc _ v n w m a b ha hb) ?_
  rintro d h' ⟨rfl, e⟩
  rw [e]
  cases hw : withinF v a n w b m with
  | true =>
    simp (disch := first | omega | (simp only [List.length_append, List.length_cons, List.length_nil]; omega)) only [go_sem, fill_c, ↓reduceIte, reduceCtorEq, Nat.reduceAdd, Nat.reduceSub, Nat.reducePow, Nat.reduceMul, Nat.reduceEqDiff, Nat.reduceLT, Nat.reduceLeDiff, Int.reduceToNat, Int.reduceLT, Int.reduceLE, Int.reduceEq, Int.reduceNeg, Int.reduceAdd, Int.reduceSub, Int.reduceMul]
    exact FinOk.drop (.inl rfl) (by simp [underL, underD]) ⟨rfl, rfl⟩
  | false =>
    simp (disch := first | omega | (simp only [List.length_append, List.length_cons, List.length_nil]; omega)) only [pc_one, pc_len, ha, hb, pc_take, go_sem, fill_c, ↓reduceIte, reduceCtorEq, Nat.reduceAdd, Nat.reduceSub, Nat.reducePow, Nat.reduceMul, Nat.reduceEqDiff, Nat.reduceLT, Nat.reduceLeDiff, Int.reduceToNat, Int.reduceLT, Int.reduceLE, Int.reduceEq, Int.reduceNeg, Int.reduceAdd, Int.reduceSub, Int.reduceMul]
    refine gfc_of (pwithin_fc _ w m v n b a hb ha) ?_
    rintro d h' ⟨rfl, e⟩
    rw [e]
    simp (disch := first | omega | (simp only [List.length_append, List.length_cons, List.length_nil]; omega)) only [go_sem, fill_c, ↓reduceIte, reduceCtorEq, Nat.reduceAdd, Nat.reduceSub, Nat.reducePow, Nat.reduceMul, Nat.reduceEqDiff, Nat.reduceLT, Nat.reduceLeDiff, Int.reduceToNat, Int.reduceLT, Int.reduceLE, Int.reduceEq, Int.reduceNeg, Int.reduceAdd, Int.reduceSub, Int.reduceMul]
    exact FinOk.drop (.inl rfl) (by simp [underL, underD]) ⟨rfl, rfl⟩
end Go.Proofs
