/-
  Own work. The walks of the document's prefixes: Most, Bit, set, front, Check, Has, Make.
-/
import Derived.Test.YtodlpcoffmnmbaaDoorPb
namespace Go.Proofs
open Go Go.YtodlpcoffmnmbaaDoor
set_option linter.unusedVariables false
set_option linter.unusedSimpArgs false
set_option maxRecDepth 10000

/-! ### weighbridge/weighbridgeref07.Most, params 1 -/
def c53r0 : List AStm := [.op (some 2) none (.mv (.c (.int .i64 0)))]
def c53r1 : List AStm := [.op (some 3) none (.mv (.t 0)),
    .op (some 4) none (.bin .eql (.t 3) (.c (.int .i64 4)))]
def c53r2 : List AStm := [.op (some 2) none (.mv (.c (.int .i64 32)))]
def c53r3 : List AStm := [.op (some 5) none (.mv (.t 0)),
    .op (some 6) none (.bin .eql (.t 5) (.c (.int .i64 6)))]
def c53r4 : List AStm := [.op (some 2) none (.mv (.c (.int .i64 128)))]
def c53r5 : List AStm := [.op (some 2) none (.mv (.c (.int .i64 (-1))))]
def c53 : CF := ⟨.seq (.reg c53r0) (.seq (.seq (.reg c53r1) (.cond (.t 4) (.seq (.reg c53r2) (.ret)) (.skip))) (.seq (.seq (.reg c53r3) (.cond (.t 6) (.seq (.reg c53r4) (.ret)) (.skip))) (.seq (.reg c53r5) (.ret)))), [.tmp 2], 7⟩
theorem cf53 : cfun Tryd.prog 53 = some c53 := by kernel_rfl

/-! ### weighbridge/weighbridgeref07.Bit, params 2 -/
def c57r0 : List AStm := [.op (some 2) none (.box (.t 0)),
    .op (some 4) none (.mv (.c (.int .i64 0)))]
def c57r1 : List AStm := [.op (some 7) none (.mv (.t 1)),
    .op (some 8) none (.bin .quo (.t 7) (.c (.int .i64 8))),
    .op (some 9) none (.ixa 16 1 (.t 2) (.t 8)),
    .op (some 10) none (.load none (.t 9)),
    .op (some 11) none (.conv .i64 (.t 10)),
    .op (some 5) none (.mv (.t 11))]
def c57r2 : List AStm := [.op (some 12) none (.mv (.t 1)),
    .op (some 13) none (.bin .rem (.t 12) (.c (.int .i64 8))),
    .op (some 14) none (.bin .sub (.c (.int .i64 7)) (.t 13)),
    .op (some 6) none (.mv (.t 14))]
def c57r3 : List AStm := [.op (some 15) none (.mv (.t 6)),
    .op (some 16) none (.bin .gtr (.t 15) (.c (.int .i64 0)))]
def c57r4 : List AStm := [.op (some 19) none (.mv (.t 5)),
    .op (some 20) none (.bin .quo (.t 19) (.c (.int .i64 2))),
    .op (some 5) none (.mv (.t 20))]
def c57r5 : List AStm := [.op (some 17) none (.mv (.t 6)),
    .op (some 18) none (.bin .sub (.t 17) (.c (.int .i64 1))),
    .op (some 6) none (.mv (.t 18))]
def c57l6 : AC := .seq (.seq (.reg c57r3) (.cond (.t 16) (.skip) (.exit 0))) (.seq (.block 1 (.reg c57r4)) (.reg c57r5))
def c57r7 : List AStm := [.op (some 21) none (.mv (.t 5)),
    .op (some 22) none (.bin .rem (.t 21) (.c (.int .i64 2))),
    .op (some 4) none (.mv (.t 22))]
def c57 : CF := ⟨.seq (.reg c57r0) (.seq (.reg c57r1) (.seq (.seq (.reg c57r2) (.block 0 (.loop c57l6))) (.seq (.reg c57r7) (.ret)))), [.tmp 4], 23⟩
theorem cf57 : cfun Tryd.prog 57 = some c57 := by kernel_rfl

/-! ### weighbridge/weighbridgeref07.set, params 2 -/
def c58r0 : List AStm := [.op (some 2) none (.box (.t 0)),
    .op (some 4) none (.alloc (List.replicate 16 (.int .u8 0)))]
def c58r1 : List AStm := [.op (some 7) none (.load (some 16) (.t 2)),
    .op (some 8) none (.mv (.t 1)),
    .call (some 9) none (.c (.fn (.func 57) [] [])) [(.t 7), (.t 8)],
    .op (some 10) none (.bin .eql (.t 9) (.c (.int .i64 1)))]
def c58r2 : List AStm := [.op (some 11) none (.load (some 16) (.t 2)),
    .op none none (.store 16 (.t 4) (.t 11))]
def c58r3 : List AStm := [.op (some 5) none (.mv (.c (.int .i64 1)))]
def c58r4 : List AStm := [.op (some 12) none (.mv (.t 1)),
    .op (some 13) none (.bin .rem (.t 12) (.c (.int .i64 8))),
    .op (some 14) none (.bin .sub (.c (.int .i64 7)) (.t 13)),
    .op (some 6) none (.mv (.t 14))]
def c58r5 : List AStm := [.op (some 15) none (.mv (.t 6)),
    .op (some 16) none (.bin .gtr (.t 15) (.c (.int .i64 0)))]
def c58r6 : List AStm := [.op (some 19) none (.mv (.t 5)),
    .op (some 20) none (.bin .mul (.t 19) (.c (.int .i64 2))),
    .op (some 5) none (.mv (.t 20))]
def c58r7 : List AStm := [.op (some 17) none (.mv (.t 6)),
    .op (some 18) none (.bin .sub (.t 17) (.c (.int .i64 1))),
    .op (some 6) none (.mv (.t 18))]
def c58l8 : AC := .seq (.seq (.reg c58r5) (.cond (.t 16) (.skip) (.exit 0))) (.seq (.block 1 (.reg c58r6)) (.reg c58r7))
def c58r9 : List AStm := [.op (some 21) none (.mv (.t 1)),
    .op (some 22) none (.bin .quo (.t 21) (.c (.int .i64 8))),
    .op (some 23) none (.mv (.t 1)),
    .op (some 24) none (.bin .quo (.t 23) (.c (.int .i64 8))),
    .op (some 25) none (.ixa 16 1 (.t 2) (.t 24)),
    .op (some 26) none (.load none (.t 25)),
    .op (some 27) none (.conv .i64 (.t 26)),
    .op (some 28) none (.mv (.t 5)),
    .op (some 29) none (.bin .add (.t 27) (.t 28)),
    .op (some 30) none (.conv .u8 (.t 29)),
    .op (some 31) none (.ixa 16 1 (.t 2) (.t 22)),
    .op none none (.store 1 (.t 31) (.t 30))]
def c58r10 : List AStm := [.op (some 32) none (.load (some 16) (.t 2)),
    .op none none (.store 16 (.t 4) (.t 32))]
def c58 : CF := ⟨.seq (.reg c58r0) (.seq (.seq (.reg c58r1) (.cond (.t 10) (.seq (.reg c58r2) (.ret)) (.skip))) (.seq (.reg c58r3) (.seq (.seq (.reg c58r4) (.block 0 (.loop c58l8))) (.seq (.reg c58r9) (.seq (.reg c58r10) (.ret)))))), [.cell 4 (some 16)], 33⟩
theorem cf58 : cfun Tryd.prog 58 = some c58 := by kernel_rfl

/-! ### weighbridge/weighbridgeref07.front, params 2 -/
def c54r0 : List AStm := [.op (some 2) none (.box (.t 0)),
    .op (some 4) none (.alloc (List.replicate 16 (.int .u8 0)))]
def c54r1 : List AStm := [.op (some 5) none (.alloc (List.replicate 16 (.int .u8 0)))]
def c54r2 : List AStm := [.op (some 6) none (.mv (.c (.int .i64 0)))]
def c54r3 : List AStm := [.op (some 7) none (.mv (.t 6)),
    .op (some 8) none (.mv (.t 1)),
    .op (some 9) none (.bin .lss (.t 7) (.t 8))]
def c54r4 : List AStm := [.op (some 12) none (.load (some 16) (.t 2)),
    .op (some 13) none (.mv (.t 6)),
    .call (some 14) none (.c (.fn (.func 57) [] [])) [(.t 12), (.t 13)],
    .op (some 15) none (.bin .eql (.t 14) (.c (.int .i64 1)))]
def c54r5 : List AStm := [.op (some 16) none (.load (some 16) (.t 5)),
    .op (some 17) none (.mv (.t 6)),
    .call (some 18) none (.c (.fn (.func 58) [] [])) [(.t 16), (.t 17)],
    .op none none (.store 16 (.t 5) (.t 18))]
def c54r6 : List AStm := [.op (some 10) none (.mv (.t 6)),
    .op (some 11) none (.bin .add (.t 10) (.c (.int .i64 1))),
    .op (some 6) none (.mv (.t 11))]
def c54l7 : AC := .seq (.seq (.reg c54r3) (.cond (.t 9) (.skip) (.exit 0))) (.seq (.block 1 (.seq (.reg c54r4) (.cond (.t 15) (.reg c54r5) (.skip)))) (.reg c54r6))
def c54r8 : List AStm := [.op (some 19) none (.load (some 16) (.t 5)),
    .op none none (.store 16 (.t 4) (.t 19))]
def c54 : CF := ⟨.seq (.reg c54r0) (.seq (.reg c54r1) (.seq (.seq (.reg c54r2) (.block 0 (.loop c54l7))) (.seq (.reg c54r8) (.ret)))), [.cell 4 (some 16)], 20⟩
theorem cf54 : cfun Tryd.prog 54 = some c54 := by kernel_rfl

/-! ### weighbridge/weighbridgeref07.Check, params 1 -/
def c44r0 : List AStm := [.op (some 1) none (.box (.t 0)),
    .op (some 2) none (.mv (.c (.int .i64 0)))]
def c44r1 : List AStm := [.op (some 3) none (.faddr 0 (.t 1)),
    .op (some 4) none (.load none (.t 3)),
    .call (some 5) none (.c (.fn (.func 53) [] [])) [(.t 4)],
    .op (some 6) none (.bin .lss (.t 5) (.c (.int .i64 0)))]
def c44r2 : List AStm := [.op (some 2) none (.mv (.c (.int .i64 4)))]
def c44r3 : List AStm := []
def c44r4 : List AStm := [.op (some 7) none (.faddr 17 (.t 1)),
    .op (some 8) none (.load none (.t 7)),
    .op (some 9) none (.bin .lss (.t 8) (.c (.int .i64 0))),
    .op (some 10) none (.mv (.t 9)),
    .op (some 11) (some (10, false)) (.faddr 17 (.t 1)),
    .op (some 12) (some (10, false)) (.load none (.t 11)),
    .op (some 13) (some (10, false)) (.faddr 0 (.t 1)),
    .op (some 14) (some (10, false)) (.load none (.t 13)),
    .callG (some 15) (some (10, false)) (.c (.fn (.func 53) [] [])) [(.t 14)],
    .op (some 16) (some (10, false)) (.bin .gtr (.t 12) (.t 15)),
    .op (some 17) none (.pick (.t 10) (.c (.bool true)) (.t 16))]
def c44r5 : List AStm := [.op (some 2) none (.mv (.c (.int .i64 1)))]
def c44r6 : List AStm := []
def c44r7 : List AStm := [.op (some 18) none (.faddr 1 (.t 1)),
    .op (some 19) none (.load (some 16) (.t 18)),
    .op (some 20) none (.faddr 17 (.t 1)),
    .op (some 21) none (.load none (.t 20)),
    .op (some 23) none (.faddr 1 (.t 1)),
    .op (some 24) none (.load (some 16) (.t 23)),
    .callG (some 22) none (.c (.fn (.func 54) [] [])) [(.t 19), (.t 21)],
    .op (some 25) none (.eqa true (List.replicate 16 .ki) (.t 22) (.t 24))]
def c44r8 : List AStm := [.op (some 2) none (.mv (.c (.int .i64 5)))]
def c44r9 : List AStm := [.op (some 2) none (.mv (.c (.int .i64 0)))]
def c44 : CF := ⟨.seq (.reg c44r0) (.seq (.seq (.reg c44r1) (.cond (.t 6) (.seq (.reg c44r2) (.ret)) (.skip))) (.seq (.seq (.dreg c44r3 c44r4) (.cond (.t 17) (.seq (.reg c44r5) (.ret)) (.skip))) (.seq (.seq (.dreg c44r6 c44r7) (.cond (.t 25) (.seq (.reg c44r8) (.ret)) (.skip))) (.seq (.reg c44r9) (.ret))))), [.tmp 2], 26⟩
theorem cf44 : cfun Tryd.prog 44 = some c44 := by kernel_rfl

/-! ### weighbridge/weighbridgeref07.Has, params 3 -/
def c45r0 : List AStm := [.op (some 3) none (.box (.t 0)),
    .op (some 5) none (.box (.t 2)),
    .op (some 6) none (.mv (.c (.bool false)))]
def c45r1 : List AStm := []
def c45r2 : List AStm := [.op (some 7) none (.load (some 18) (.t 3)),
    .callG (some 8) none (.c (.fn (.func 44) [] [])) [(.t 7)],
    .op (some 9) none (.bin .eql (.t 8) (.c (.int .i64 0))),
    .op (some 10) none (.mv (.t 9)),
    .op (some 11) (some (10, true)) (.mv (.t 1)),
    .op (some 12) (some (10, true)) (.faddr 0 (.t 3)),
    .op (some 13) (some (10, true)) (.load none (.t 12)),
    .op (some 14) (some (10, true)) (.bin .eql (.t 11) (.t 13)),
    .op (some 15) none (.pick (.t 10) (.t 14) (.c (.bool false))),
    .op (some 16) none (.mv (.t 15)),
    .op (some 17) (some (16, true)) (.load (some 16) (.t 5)),
    .op (some 18) (some (16, true)) (.faddr 17 (.t 3)),
    .op (some 19) (some (16, true)) (.load none (.t 18)),
    .op (some 21) (some (16, true)) (.faddr 1 (.t 3)),
    .op (some 22) (some (16, true)) (.load (some 16) (.t 21)),
    .callG (some 20) (some (16, true)) (.c (.fn (.func 54) [] [])) [(.t 17), (.t 19)],
    .op (some 23) (some (16, true)) (.eqa false (List.replicate 16 .ki) (.t 20) (.t 22)),
    .op (some 24) none (.pick (.t 16) (.t 23) (.c (.bool false))),
    .op (some 6) none (.mv (.t 24))]
def c45 : CF := ⟨.seq (.reg c45r0) (.seq (.dreg c45r1 c45r2) (.ret)), [.tmp 6], 25⟩
theorem cf45 : cfun Tryd.prog 45 = some c45 := by kernel_rfl



def mostR (v : Int) : Int := match mostF v with | some m => (m : Int) | none => -1
theorem rmost_fc (h : Heap) (v : Int) : FC Tryd.prog 53 [.int .i64 v] h fun d h' => d = .int .i64 (mostR v) ∧ h' = h := by
  refine FC.goes cf53 ?_; simp only [c53]; simp only [List.length_cons, List.length_nil, Nat.reduceAdd, Nat.reduceSub, List.replicate_succ, List.replicate_zero, List.cons_append, List.nil_append]
  by_cases h4 : v = 4
  · subst h4
    simp (disch := first | omega | (simp only [List.length_append, List.length_cons, List.length_nil]; omega)) only [c53r0, c53r1, c53r2, c53r3, c53r4, c53r5, go_sem, fill_c, ↓reduceIte, reduceCtorEq, Nat.reduceAdd, Nat.reduceSub, Nat.reducePow, Nat.reduceMul, Nat.reduceEqDiff, Nat.reduceLT, Nat.reduceLeDiff, Int.reduceToNat, Int.reduceLT, Int.reduceLE, Int.reduceEq, Int.reduceNeg, Int.reduceAdd, Int.reduceSub, Int.reduceMul]
    exact FinOk.all ⟨rfl, rfl⟩
  · by_cases h6 : v = 6
    · subst h6
      simp (disch := first | omega | (simp only [List.length_append, List.length_cons, List.length_nil]; omega)) only [c53r0, c53r1, c53r2, c53r3, c53r4, c53r5, go_sem, fill_c, ↓reduceIte, reduceCtorEq, Nat.reduceAdd, Nat.reduceSub, Nat.reducePow, Nat.reduceMul, Nat.reduceEqDiff, Nat.reduceLT, Nat.reduceLeDiff, Int.reduceToNat, Int.reduceLT, Int.reduceLE, Int.reduceEq, Int.reduceNeg, Int.reduceAdd, Int.reduceSub, Int.reduceMul]
      exact FinOk.all ⟨rfl, rfl⟩
    · have e1 : mostF v = none := by simp [mostF, h4, h6]
      have e2 : mostR v = -1 := by rw [mostR, e1]
      rw [e2]
      simp (disch := first | omega | (simp only [List.length_append, List.length_cons, List.length_nil]; omega)) only [c53r0, c53r1, c53r2, c53r3, c53r4, c53r5, h4, h6, go_sem, fill_c, ↓reduceIte, reduceCtorEq, Nat.reduceAdd, Nat.reduceSub, Nat.reducePow, Nat.reduceMul, Nat.reduceEqDiff, Nat.reduceLT, Nat.reduceLeDiff, Int.reduceToNat, Int.reduceLT, Int.reduceLE, Int.reduceEq, Int.reduceNeg, Int.reduceAdd, Int.reduceSub, Int.reduceMul]
      exact FinOk.all ⟨rfl, rfl⟩

def bitN (a : List UInt8) (i : Nat) : Nat := (a.getD (i / 8) 0).toNat / 2 ^ (7 - i % 8) % 2
theorem bitN_eq (a : List UInt8) (i : Nat) : bitN a i = if abit a i then 1 else 0 := by
  unfold bitN abit
  rw [Nat.testBit_eq_decide_div_mod_eq]
  have h := Nat.mod_two_eq_zero_or_one ((a.getD (i / 8) 0).toNat / 2 ^ (7 - i % 8))
  generalize (a.getD (i / 8) 0).toNat / 2 ^ (7 - i % 8) % 2 = q at *
  rcases h with rfl | rfl <;> rfl
theorem byte_at {a : List UInt8} (ha : a.length = 16) {k : Nat} (hk : k < 16) : (List.drop k (ofBytes a))[0]? = some (.int .u8 ((a.getD k 0).toNat : Int)) := by
  rw [List.getElem?_drop, Nat.add_zero, ofBytes_get, getB (by omega)]; rfl
theorem rbit_fc (h : Heap) (a : List UInt8) (ha : a.length = 16) (i : Nat) (hi : i < 128) : FC Tryd.prog 57 [.agg (ofBytes a), .int .i64 (i : Int)] h fun d h' => d = .int .i64 ((bitN a i : Nat) : Int) ∧ h' = h := by
  refine FC.goes cf57 ?_; simp only [c57]; simp only [List.length_cons, List.length_nil, Nat.reduceAdd, Nat.reduceSub, List.replicate_succ, List.replicate_zero, List.cons_append, List.nil_append]
  have e1 : IntKind.i64.wrap ((i / 8 : Nat) : Int) = ((i / 8 : Nat) : Int) := w_i64 (by omega) (by omega)
  have e2 : IntKind.i64.wrap ((i % 8 : Nat) : Int) = ((i % 8 : Nat) : Int) := w_i64 (by omega) (by omega)
  have e3 : IntKind.i64.wrap (7 - ((i % 8 : Nat) : Int)) = ((7 - i % 8 : Nat) : Int) := by rw [w_i64 (by omega) (by omega)]; omega
  have hi8 : i / 8 < 16 := by omega
  have hg := byte_at ha hi8
  have hb := (a.getD (i / 8) 0).toNat_lt
  have hbn : bitN a i = (a.getD (i / 8) 0).toNat / 2 ^ (7 - i % 8) % 2 := rfl
  have hal : (ofBytes a).length = 16 := by rw [ofBytes_length, ha]
  rw [hbn]
  generalize a.getD (i / 8) 0 = b at *
  have e4 : IntKind.i64.wrap (b.toNat : Int) = (b.toNat : Int) := w_i64 (by omega) (by omega)
  simp (disch := first | omega | (simp only [List.length_append, List.length_cons, List.length_nil]; omega)) only [c57r0, c57r1, c57r2, c57r3, c57r4, c57r5, c57l6, c57r7, e1, e2, e3, e4, hg, hal, go_sem, fill_c, ↓reduceIte, reduceCtorEq, Nat.reduceAdd, Nat.reduceSub, Nat.reducePow, Nat.reduceMul, Nat.reduceEqDiff, Nat.reduceLT, Nat.reduceLeDiff, Int.reduceToNat, Int.reduceLT, Int.reduceLE, Int.reduceEq, Int.reduceNeg, Int.reduceAdd, Int.reduceSub, Int.reduceMul]
  have hs : 7 - i % 8 ≤ 7 := by omega
  generalize 7 - i % 8 = s at *
  refine loop_to s (fun k st => ∃ (v q : Nat), v = b.toNat / 2 ^ k ∧ q + k = s ∧ ∃ (j : Nat → D), st = ⟨(j 0 :: j 1 :: j 2 :: j 3 :: j 4 :: .int .i64 (v : Int) :: .int .i64 (q : Int) :: j 7 :: j 8 :: j 9 :: j 10 :: j 11 :: j 12 :: j 13 :: j 14 :: j 15 :: j 16 :: j 17 :: j 18 :: j 19 :: j 20 :: j 21 :: j 22 :: []), h ++ [.box (ofBytes a)]⟩) ⟨_, s, by simp, by omega, junk rfl⟩ ?_
  rintro k st hk ⟨v, q, hv, hq, j, rfl⟩
  have hvl : v ≤ b.toNat := by rw [hv]; exact Nat.div_le_self _ _
  by_cases hks : k < s
  · have h0 : (0 : Int) < q := by omega
    have f1 : IntKind.i64.wrap ((v / 2 : Nat) : Int) = ((v / 2 : Nat) : Int) := w_i64 (by omega) (by omega)
    have f2 : IntKind.i64.wrap ((q : Int) - 1) = ((q - 1 : Nat) : Int) := by rw [w_i64 (by omega) (by omega)]; omega
    simp (disch := first | omega | (simp only [List.length_append, List.length_cons, List.length_nil]; omega)) only [c57r0, c57r1, c57r2, c57r3, c57r4, c57r5, c57l6, c57r7, h0, f1, f2, go_sem, fill_c, ↓reduceIte, reduceCtorEq, Nat.reduceAdd, Nat.reduceSub, Nat.reducePow, Nat.reduceMul, Nat.reduceEqDiff, Nat.reduceLT, Nat.reduceLeDiff, Int.reduceToNat, Int.reduceLT, Int.reduceLE, Int.reduceEq, Int.reduceNeg, Int.reduceAdd, Int.reduceSub, Int.reduceMul]
    refine ⟨hks, v / 2, q - 1, ?_, by omega, junk rfl⟩
    rw [hv, Nat.pow_succ, Nat.div_div_eq_div_mul]
  · have h0 : ¬ (0 : Int) < q := by omega
    have : k = s := by omega
    subst this
    have f1 : IntKind.i64.wrap ((v % 2 : Nat) : Int) = ((v % 2 : Nat) : Int) := w_i64 (by omega) (by omega)
    simp (disch := first | omega | (simp only [List.length_append, List.length_cons, List.length_nil]; omega)) only [c57r0, c57r1, c57r2, c57r3, c57r4, c57r5, c57l6, c57r7, h0, f1, go_sem, fill_c, ↓reduceIte, reduceCtorEq, Nat.reduceAdd, Nat.reduceSub, Nat.reducePow, Nat.reduceMul, Nat.reduceEqDiff, Nat.reduceLT, Nat.reduceLeDiff, Int.reduceToNat, Int.reduceLT, Int.reduceLE, Int.reduceEq, Int.reduceNeg, Int.reduceAdd, Int.reduceSub, Int.reduceMul]
    rw [hv]
    exact FinOk.drop (.inl rfl) (by simp [underL, underD]) ⟨rfl, rfl⟩

theorem or_add8 : ∀ (x : Fin 256) (s : Fin 8), x.val / 2 ^ s.val % 2 = 0 → x.val + 2 ^ s.val = x.val ||| 2 ^ s.val := by decide +kernel
theorem or_same8 : ∀ (x : Fin 256) (s : Fin 8), ¬ x.val / 2 ^ s.val % 2 = 0 → x.val ||| 2 ^ s.val = x.val := by decide +kernel
theorem setA_same {a : List UInt8} {i : Nat} (h : bitN a i = 1) : setA a i = a := by
  have hb := (a.getD (i / 8) 0).toNat_lt
  have h1 : (a.getD (i / 8) 0).toNat / 2 ^ (7 - i % 8) % 2 = 1 := h
  have h2 := or_same8 ⟨(a.getD (i / 8) 0).toNat, hb⟩ ⟨7 - i % 8, by omega⟩ (by simp only; omega)
  simp only at h2
  unfold setA
  rw [h2]
  refine bytes_ext (by simp) fun k hk => ?_
  rw [getD_set8]
  split
  · rename_i hc
    obtain ⟨rfl, _⟩ := hc
    apply UInt8.toNat_inj.1
    exact UInt8.toNat_ofNat_of_lt' hb
  · rfl
theorem set_fcR (h : Heap) (a : List UInt8) (ha : a.length = 16) (i : Nat) (hi : i < 128) : FC Tryd.prog 58 [.agg (ofBytes a), .int .i64 (i : Int)] h fun d h' => d = .agg (ofBytes (setA a i)) ∧ h' = h := by
  have hal : (ofBytes a).length = 16 := by rw [ofBytes_length, ha]
  have p7 : List.take 16 (ofBytes a) = ofBytes a := List.take_of_length_le (by omega)
  refine FC.goes cf58 ?_; simp only [c58]; simp only [List.length_cons, List.length_nil, Nat.reduceAdd, Nat.reduceSub, List.replicate_succ, List.replicate_zero, List.cons_append, List.nil_append]
  simp (disch := first | omega | (simp only [List.length_append, List.length_cons, List.length_nil]; omega)) only [c58r0, c58r1, c58r2, c58r3, c58r4, c58r5, c58r6, c58r7, c58l8, c58r9, c58r10, p7, hal, go_sem, fill_c, ↓reduceIte, reduceCtorEq, Nat.reduceAdd, Nat.reduceSub, Nat.reducePow, Nat.reduceMul, Nat.reduceEqDiff, Nat.reduceLT, Nat.reduceLeDiff, Int.reduceToNat, Int.reduceLT, Int.reduceLE, Int.reduceEq, Int.reduceNeg, Int.reduceAdd, Int.reduceSub, Int.reduceMul]
  refine gfc_of (rbit_fc _ a ha i hi) ?_
  rintro d h' ⟨rfl, e⟩
  rw [e]
  by_cases hb1 : bitN a i = 1
  · rw [hb1, setA_same hb1]
    simp (disch := first | omega | (simp only [List.length_append, List.length_cons, List.length_nil]; omega)) only [p7, hal, go_sem, fill_c, ↓reduceIte, reduceCtorEq, Nat.reduceAdd, Nat.reduceSub, Nat.reducePow, Nat.reduceMul, Nat.reduceEqDiff, Nat.reduceLT, Nat.reduceLeDiff, Int.reduceToNat, Int.reduceLT, Int.reduceLE, Int.reduceEq, Int.reduceNeg, Int.reduceAdd, Int.reduceSub, Int.reduceMul]
    exact FinOk.drop (.inl rfl) (by simp [underL, underD, under_bytes]) ⟨rfl, rfl⟩
  · have hb1' : ¬ ((bitN a i : Nat) : Int) = 1 := by omega
    have e1 : IntKind.i64.wrap ((i / 8 : Nat) : Int) = ((i / 8 : Nat) : Int) := w_i64 (by omega) (by omega)
    have e2 : IntKind.i64.wrap ((i % 8 : Nat) : Int) = ((i % 8 : Nat) : Int) := w_i64 (by omega) (by omega)
    have e3 : IntKind.i64.wrap (7 - ((i % 8 : Nat) : Int)) = ((7 - i % 8 : Nat) : Int) := by rw [w_i64 (by omega) (by omega)]; omega
    simp (disch := first | omega | (simp only [List.length_append, List.length_cons, List.length_nil]; omega)) only [hb1', e1, e2, e3, go_sem, fill_c, ↓reduceIte, reduceCtorEq, Nat.reduceAdd, Nat.reduceSub, Nat.reducePow, Nat.reduceMul, Nat.reduceEqDiff, Nat.reduceLT, Nat.reduceLeDiff, Int.reduceToNat, Int.reduceLT, Int.reduceLE, Int.reduceEq, Int.reduceNeg, Int.reduceAdd, Int.reduceSub, Int.reduceMul]
    have hi8 : i / 8 < 16 := by omega
    have hg := byte_at ha hi8
    have hb := (a.getD (i / 8) 0).toNat_lt
    have hbn : bitN a i = (a.getD (i / 8) 0).toNat / 2 ^ (7 - i % 8) % 2 := rfl
    have h2 := or_add8 ⟨(a.getD (i / 8) 0).toNat, hb⟩ ⟨7 - i % 8, by omega⟩ (by simp only; omega)
    simp only at h2
    have hsA : setA a i = a.set (i / 8) (UInt8.ofNat ((a.getD (i / 8) 0).toNat ||| 2 ^ (7 - i % 8))) := rfl
    have hol := or_lt (a.getD (i / 8) 0) (s := 7 - i % 8) (by omega)
    have hbt : (UInt8.ofNat ((a.getD (i / 8) 0).toNat ||| 2 ^ (7 - i % 8))).toNat = (a.getD (i / 8) 0).toNat ||| 2 ^ (7 - i % 8) := UInt8.toNat_ofNat_of_lt' hol
    have hs : 7 - i % 8 ≤ 7 := by omega
    generalize 7 - i % 8 = s at *
    generalize a.getD (i / 8) 0 = b at *
    refine loop_to s (fun k st => ∃ (q : Nat), q + k = s ∧ ∃ (j : Nat → D), st = ⟨(j 0 :: .int .i64 (i : Int) :: .ref h.length 0 :: j 3 :: .ref (h.length + 1) 0 :: .int .i64 ((2 ^ k : Nat) : Int) :: .int .i64 (q : Int) :: j 7 :: j 8 :: j 9 :: j 10 :: j 11 :: j 12 :: j 13 :: j 14 :: j 15 :: j 16 :: j 17 :: j 18 :: j 19 :: j 20 :: j 21 :: j 22 :: j 23 :: j 24 :: j 25 :: j 26 :: j 27 :: j 28 :: j 29 :: j 30 :: j 31 :: j 32 :: []), h ++ [.box (ofBytes a), .box (List.replicate 16 (.int .u8 0))]⟩) ⟨s, by omega, junk rfl⟩ ?_
    rintro k st hk ⟨q, hq, j, rfl⟩
    have hpk : 2 ^ k ≤ 128 := Nat.le_trans (Nat.pow_le_pow_right (n := 2) (by omega) (by omega : k ≤ 7)) (by decide)
    by_cases hks : k < s
    · have h0 : (0 : Int) < q := by omega
      have f1 : IntKind.i64.wrap (((2 ^ k : Nat) : Int) * 2) = ((2 ^ (k + 1) : Nat) : Int) := by
        rw [Nat.pow_succ]
        generalize 2 ^ k = x at hpk ⊢
        rw [w_i64 (by omega) (by omega)]; omega
      have f2 : IntKind.i64.wrap ((q : Int) - 1) = ((q - 1 : Nat) : Int) := by rw [w_i64 (by omega) (by omega)]; omega
      simp (disch := first | omega | (simp only [List.length_append, List.length_cons, List.length_nil]; omega)) only [c58r0, c58r1, c58r2, c58r3, c58r4, c58r5, c58r6, c58r7, c58l8, c58r9, c58r10, h0, f1, f2, go_sem, fill_c, ↓reduceIte, reduceCtorEq, Nat.reduceAdd, Nat.reduceSub, Nat.reducePow, Nat.reduceMul, Nat.reduceEqDiff, Nat.reduceLT, Nat.reduceLeDiff, Int.reduceToNat, Int.reduceLT, Int.reduceLE, Int.reduceEq, Int.reduceNeg, Int.reduceAdd, Int.reduceSub, Int.reduceMul]
      exact ⟨hks, q - 1, by omega, junk rfl⟩
    · have h0 : ¬ (0 : Int) < q := by omega
      have : k = s := by omega
      subst this
      have f3 : IntKind.i64.wrap (b.toNat : Int) = (b.toNat : Int) := w_i64 (by omega) (by omega)
      have f4 : IntKind.i64.wrap ((b.toNat : Int) + ((2 ^ k : Nat) : Int)) = ((b.toNat ||| 2 ^ k : Nat) : Int) := by rw [← h2, w_i64 (by omega) (by omega)]; omega
      have f5 : IntKind.u8.wrap ((b.toNat ||| 2 ^ k : Nat) : Int) = ((b.toNat ||| 2 ^ k : Nat) : Int) := w_u8 (by omega) (by omega)
      have hput := ofBytes_put a (i / 8) (UInt8.ofNat (b.toNat ||| 2 ^ k))
      rw [hbt, ← hsA] at hput
      have p8 : List.take 16 (ofBytes (setA a i)) = ofBytes (setA a i) := List.take_of_length_le (by rw [ofBytes_length, setA_length, ha]; exact Nat.le_refl _)
      have hsl : (ofBytes (setA a i)).length = 16 := by rw [ofBytes_length, setA_length, ha]
      have hput' := hput.symm
      simp (disch := first | omega | (simp only [List.length_append, List.length_cons, List.length_nil]; omega)) only [c58r0, c58r1, c58r2, c58r3, c58r4, c58r5, c58r6, c58r7, c58l8, c58r9, c58r10, h0, e1, hg, hal, f3, f4, f5, hput', p8, hsl, go_sem, fill_c, ↓reduceIte, reduceCtorEq, Nat.reduceAdd, Nat.reduceSub, Nat.reducePow, Nat.reduceMul, Nat.reduceEqDiff, Nat.reduceLT, Nat.reduceLeDiff, Int.reduceToNat, Int.reduceLT, Int.reduceLE, Int.reduceEq, Int.reduceNeg, Int.reduceAdd, Int.reduceSub, Int.reduceMul]
      exact FinOk.drop (.inl rfl) (by simp [underL, underD, under_bytes]) ⟨rfl, rfl⟩

theorem rfront_fc (h : Heap) (a : List UInt8) (ha : a.length = 16) (n : Nat) (hn : n ≤ 128) : FC Tryd.prog 54 [.agg (ofBytes a), .int .i64 (n : Int)] h fun d h' => d = .agg (ofBytes (frontTo a n)) ∧ h' = h := by
  have hal : (ofBytes a).length = 16 := by rw [ofBytes_length, ha]
  have p7 : List.take 16 (ofBytes a) = ofBytes a := List.take_of_length_le (by omega)
  have hz : List.replicate 16 (D.int .u8 0) = ofBytes (frontTo a 0) := rfl
  refine FC.goes cf54 ?_; simp only [c54]; simp only [List.length_cons, List.length_nil, Nat.reduceAdd, Nat.reduceSub, List.replicate_succ, List.replicate_zero, List.cons_append, List.nil_append]
  simp (disch := first | omega | (simp only [List.length_append, List.length_cons, List.length_nil]; omega)) only [c54r0, c54r1, c54r2, c54r3, c54r4, c54r5, c54r6, c54l7, c54r8, go_sem, fill_c, ↓reduceIte, reduceCtorEq, Nat.reduceAdd, Nat.reduceSub, Nat.reducePow, Nat.reduceMul, Nat.reduceEqDiff, Nat.reduceLT, Nat.reduceLeDiff, Int.reduceToNat, Int.reduceLT, Int.reduceLE, Int.reduceEq, Int.reduceNeg, Int.reduceAdd, Int.reduceSub, Int.reduceMul]
  refine loop_to n (fun k st => ∃ (j : Nat → D), st = ⟨(j 0 :: .int .i64 (n : Int) :: .ref h.length 0 :: j 3 :: .ref (h.length + 1) 0 :: .ref (h.length + 2) 0 :: .int .i64 (k : Int) :: j 7 :: j 8 :: j 9 :: j 10 :: j 11 :: j 12 :: j 13 :: j 14 :: j 15 :: j 16 :: j 17 :: j 18 :: j 19 :: []), h ++ [.box (ofBytes a), .box (List.replicate 16 (.int .u8 0)), .box (ofBytes (frontTo a k))]⟩) (by rw [← hz]; exact junk rfl) ?_
  rintro k st hk ⟨j, rfl⟩
  have hfl := frontTo_length a k
  have hfl2 : (ofBytes (frontTo a k)).length = 16 := by rw [ofBytes_length, hfl]
  have p8 : List.take 16 (ofBytes (frontTo a k)) = ofBytes (frontTo a k) := List.take_of_length_le (by omega)
  by_cases hkn : k < n
  · have hkn' : (k : Int) < n := by omega
    have e5 : IntKind.i64.wrap ((k : Int) + 1) = ((k + 1 : Nat) : Int) := by rw [w_i64 (by omega) (by omega)]; omega
    have hstep : frontTo a (k + 1) = if abit a k then setA (frontTo a k) k else frontTo a k := rfl
    simp (disch := first | omega | (simp only [List.length_append, List.length_cons, List.length_nil]; omega)) only [c54r0, c54r1, c54r2, c54r3, c54r4, c54r5, c54r6, c54l7, c54r8, hkn', p7, hal, go_sem, fill_c, ↓reduceIte, reduceCtorEq, Nat.reduceAdd, Nat.reduceSub, Nat.reducePow, Nat.reduceMul, Nat.reduceEqDiff, Nat.reduceLT, Nat.reduceLeDiff, Int.reduceToNat, Int.reduceLT, Int.reduceLE, Int.reduceEq, Int.reduceNeg, Int.reduceAdd, Int.reduceSub, Int.reduceMul]
    refine gfc_of (rbit_fc _ a ha k (by omega)) ?_
    rintro d h' ⟨rfl, e⟩
    rw [e]
    by_cases hb : abit a k = true
    · have hbn : bitN a k = 1 := by rw [bitN_eq, hb]; rfl
      rw [hbn]
      simp (disch := first | omega | (simp only [List.length_append, List.length_cons, List.length_nil]; omega)) only [p8, hfl2, go_sem, fill_c, ↓reduceIte, reduceCtorEq, Nat.reduceAdd, Nat.reduceSub, Nat.reducePow, Nat.reduceMul, Nat.reduceEqDiff, Nat.reduceLT, Nat.reduceLeDiff, Int.reduceToNat, Int.reduceLT, Int.reduceLE, Int.reduceEq, Int.reduceNeg, Int.reduceAdd, Int.reduceSub, Int.reduceMul]
      refine gfc_of (set_fcR _ _ hfl k (by omega)) ?_
      rintro d h' ⟨rfl, e⟩
      rw [e]
      have hsl : (ofBytes (setA (frontTo a k) k)).length = 16 := by rw [ofBytes_length, setA_length, hfl]
      have p9 : List.take 16 (ofBytes (setA (frontTo a k) k)) = ofBytes (setA (frontTo a k) k) := List.take_of_length_le (by omega)
      simp (disch := first | omega | (simp only [List.length_append, List.length_cons, List.length_nil]; omega)) only [hsl, hfl2, p9, e5, go_sem, fill_c, ↓reduceIte, reduceCtorEq, Nat.reduceAdd, Nat.reduceSub, Nat.reducePow, Nat.reduceMul, Nat.reduceEqDiff, Nat.reduceLT, Nat.reduceLeDiff, Int.reduceToNat, Int.reduceLT, Int.reduceLE, Int.reduceEq, Int.reduceNeg, Int.reduceAdd, Int.reduceSub, Int.reduceMul]
      refine ⟨hkn, ?_⟩
      rw [hstep, if_pos hb]
      exact junk rfl
    · have hbn : bitN a k = 0 := by rw [bitN_eq, if_neg hb]
      rw [hbn]
      simp (disch := first | omega | (simp only [List.length_append, List.length_cons, List.length_nil]; omega)) only [e5, go_sem, fill_c, ↓reduceIte, reduceCtorEq, Nat.reduceAdd, Nat.reduceSub, Nat.reducePow, Nat.reduceMul, Nat.reduceEqDiff, Nat.reduceLT, Nat.reduceLeDiff, Int.reduceToNat, Int.reduceLT, Int.reduceLE, Int.reduceEq, Int.reduceNeg, Int.reduceAdd, Int.reduceSub, Int.reduceMul]
      refine ⟨hkn, ?_⟩
      rw [hstep, if_neg hb]
      exact junk rfl
  · have hkn' : ¬ (k : Int) < n := by omega
    have : k = n := by omega
    subst this
    simp (disch := first | omega | (simp only [List.length_append, List.length_cons, List.length_nil]; omega)) only [c54r0, c54r1, c54r2, c54r3, c54r4, c54r5, c54r6, c54l7, c54r8, hkn', p8, hfl2, go_sem, fill_c, ↓reduceIte, reduceCtorEq, Nat.reduceAdd, Nat.reduceSub, Nat.reducePow, Nat.reduceMul, Nat.reduceEqDiff, Nat.reduceLT, Nat.reduceLeDiff, Int.reduceToNat, Int.reduceLT, Int.reduceLE, Int.reduceEq, Int.reduceNeg, Int.reduceAdd, Int.reduceSub, Int.reduceMul]
    exact FinOk.drop (.inl rfl) (by simp [underL, underD, under_bytes]) ⟨rfl, rfl⟩

theorem mostR_fits {v n : Int} : fitsF v n = if mostR v < 0 then 4 else if n < 0 ∨ mostR v < n then 1 else 0 := by
  unfold fitsF mostR
  cases mostF v with
  | none => rfl
  | some m =>
    have : ¬ (m : Int) < 0 := by omega
    simp only [this, if_false]
theorem rcheck_fc (h : Heap) (v n : Int) (a : List UInt8) (ha : a.length = 16) : FC Tryd.prog 44 [prefD v a n] h fun d h' => d = .int .i64 (checkF v a n) ∧ h' = h := by
  have p1 := pr_take ha [.int .i64 n]
  have p2 := pr_drop ha [.int .i64 n]
  have p3 := pr_len ha (.int .i64 n)
  have p4 := pr_one a n
  have hfit := mostR_fits (v := v) (n := n)
  refine FC.goes cf44 ?_; simp only [c44]; simp only [List.length_cons, List.length_nil, Nat.reduceAdd, Nat.reduceSub, List.replicate_succ, List.replicate_zero, List.cons_append, List.nil_append]
  simp (disch := first | omega | (simp only [List.length_append, List.length_cons, List.length_nil]; omega)) only [c44r0, c44r1, c44r2, c44r3, c44r4, c44r5, c44r6, c44r7, c44r8, c44r9, prefD, p2, p3, p4, go_sem, fill_c, ↓reduceIte, reduceCtorEq, Nat.reduceAdd, Nat.reduceSub, Nat.reducePow, Nat.reduceMul, Nat.reduceEqDiff, Nat.reduceLT, Nat.reduceLeDiff, Int.reduceToNat, Int.reduceLT, Int.reduceLE, Int.reduceEq, Int.reduceNeg, Int.reduceAdd, Int.reduceSub, Int.reduceMul]
  refine gfc_of (rmost_fc _ v) ?_
  rintro d h' ⟨rfl, e⟩
  rw [e]
  by_cases hm : mostR v < 0
  · rw [if_pos hm] at hfit
    have hc : checkF v a n = 4 := by simp [checkF, hfit]
    rw [hc]
    simp (disch := first | omega | (simp only [List.length_append, List.length_cons, List.length_nil]; omega)) only [hm, go_sem, fill_c, ↓reduceIte, reduceCtorEq, Nat.reduceAdd, Nat.reduceSub, Nat.reducePow, Nat.reduceMul, Nat.reduceEqDiff, Nat.reduceLT, Nat.reduceLeDiff, Int.reduceToNat, Int.reduceLT, Int.reduceLE, Int.reduceEq, Int.reduceNeg, Int.reduceAdd, Int.reduceSub, Int.reduceMul]
    exact FinOk.drop (.inl rfl) (by simp [underL, underD]) ⟨rfl, rfl⟩
  · rw [if_neg hm] at hfit
    by_cases h0 : n < 0
    · rw [if_pos (.inl h0)] at hfit
      have hc : checkF v a n = 1 := by simp [checkF, hfit]
      rw [hc]
      simp (disch := first | omega | (simp only [List.length_append, List.length_cons, List.length_nil]; omega)) only [hm, h0, p2, go_sem, fill_c, ↓reduceIte, reduceCtorEq, Nat.reduceAdd, Nat.reduceSub, Nat.reducePow, Nat.reduceMul, Nat.reduceEqDiff, Nat.reduceLT, Nat.reduceLeDiff, Int.reduceToNat, Int.reduceLT, Int.reduceLE, Int.reduceEq, Int.reduceNeg, Int.reduceAdd, Int.reduceSub, Int.reduceMul]
      exact FinOk.drop (.inl rfl) (by simp [underL, underD]) ⟨rfl, rfl⟩
    · simp (disch := first | omega | (simp only [List.length_append, List.length_cons, List.length_nil]; omega)) only [hm, h0, p2, go_sem, fill_c, ↓reduceIte, reduceCtorEq, Nat.reduceAdd, Nat.reduceSub, Nat.reducePow, Nat.reduceMul, Nat.reduceEqDiff, Nat.reduceLT, Nat.reduceLeDiff, Int.reduceToNat, Int.reduceLT, Int.reduceLE, Int.reduceEq, Int.reduceNeg, Int.reduceAdd, Int.reduceSub, Int.reduceMul]
      refine xfc_of (rmost_fc _ v) ?_
      rintro d h' ⟨rfl, e⟩
      refine ⟨⟨[], by rw [e, List.append_nil]⟩, ?_⟩
      rw [e]
      by_cases h1 : mostR v < n
      · rw [if_pos (.inr h1)] at hfit
        have hc : checkF v a n = 1 := by simp [checkF, hfit]
        rw [hc]
        simp (disch := first | omega | (simp only [List.length_append, List.length_cons, List.length_nil]; omega)) only [h1, go_sem, fill_c, ↓reduceIte, reduceCtorEq, Nat.reduceAdd, Nat.reduceSub, Nat.reducePow, Nat.reduceMul, Nat.reduceEqDiff, Nat.reduceLT, Nat.reduceLeDiff, Int.reduceToNat, Int.reduceLT, Int.reduceLE, Int.reduceEq, Int.reduceNeg, Int.reduceAdd, Int.reduceSub, Int.reduceMul]
        exact FinOk.drop (.inl rfl) (by simp [underL, underD]) ⟨rfl, rfl⟩
      · rw [if_neg (by omega)] at hfit
        have hc : checkF v a n = if frontTo a n.toNat = a then 0 else 5 := by simp [checkF, hfit]
        obtain ⟨g0, g1⟩ := checkF_le hfit
        obtain ⟨k, rfl⟩ := Int.eq_ofNat_of_zero_le g0
        rw [show ((k : Int)).toNat = k from rfl] at hc
        rw [hc]
        simp (disch := first | omega | (simp only [List.length_append, List.length_cons, List.length_nil]; omega)) only [h1, p1, p2, p3, go_sem, fill_c, ↓reduceIte, reduceCtorEq, Nat.reduceAdd, Nat.reduceSub, Nat.reducePow, Nat.reduceMul, Nat.reduceEqDiff, Nat.reduceLT, Nat.reduceLeDiff, Int.reduceToNat, Int.reduceLT, Int.reduceLE, Int.reduceEq, Int.reduceNeg, Int.reduceAdd, Int.reduceSub, Int.reduceMul]
        refine xfc_of (rfront_fc _ a ha k (by omega)) ?_
        rintro d h' ⟨rfl, e⟩
        refine ⟨⟨[], by rw [e, List.append_nil]⟩, ?_⟩
        rw [e]
        have hfl := frontTo_length a k
        by_cases he : frontTo a k = a
        · rw [he]
          simp (disch := first | omega | (simp only [List.length_append, List.length_cons, List.length_nil]; omega)) only [ha, go_sem, fill_c, ↓reduceIte, reduceCtorEq, Nat.reduceAdd, Nat.reduceSub, Nat.reducePow, Nat.reduceMul, Nat.reduceEqDiff, Nat.reduceLT, Nat.reduceLeDiff, Int.reduceToNat, Int.reduceLT, Int.reduceLE, Int.reduceEq, Int.reduceNeg, Int.reduceAdd, Int.reduceSub, Int.reduceMul]
          exact FinOk.drop (.inl rfl) (by simp [underL, underD]) ⟨rfl, rfl⟩
        · simp (disch := first | omega | (simp only [List.length_append, List.length_cons, List.length_nil]; omega)) only [he, hfl, ha, go_sem, fill_c, ↓reduceIte, reduceCtorEq, Nat.reduceAdd, Nat.reduceSub, Nat.reducePow, Nat.reduceMul, Nat.reduceEqDiff, Nat.reduceLT, Nat.reduceLeDiff, Int.reduceToNat, Int.reduceLT, Int.reduceLE, Int.reduceEq, Int.reduceNeg, Int.reduceAdd, Int.reduceSub, Int.reduceMul]
          exact FinOk.drop (.inl rfl) (by simp [underL, underD]) ⟨rfl, rfl⟩

theorem rhas_fc (h : Heap) (p n v : Int) (a b : List UInt8) (ha : a.length = 16) (hb : b.length = 16) : FC Tryd.prog 45 [prefD p a n, .int .i64 v, .agg (ofBytes b)] h fun d h' => d = .bool (hasF p a n v b) ∧ h' = h := by
  have p1 := pr_take ha [.int .i64 n]
  have p2 := pr_drop ha [.int .i64 n]
  have p3 := pr_len ha (.int .i64 n)
  have p4 := pr_one a n
  have p6 : List.take 17 (ofBytes a ++ [D.int .i64 n]) = ofBytes a ++ [D.int .i64 n] := List.take_of_length_le (by omega)
  have hbl : (ofBytes b).length = 16 := by rw [ofBytes_length, hb]
  have p7 : List.take 16 (ofBytes b) = ofBytes b := List.take_of_length_le (by omega)
  have er := rcheck_fc
  unfold prefD at er
  refine FC.goes cf45 ?_; simp only [c45]; simp only [List.length_cons, List.length_nil, Nat.reduceAdd, Nat.reduceSub, List.replicate_succ, List.replicate_zero, List.cons_append, List.nil_append]
  simp (disch := first | omega | (simp only [List.length_append, List.length_cons, List.length_nil]; omega)) only [c45r0, c45r1, c45r2, prefD, p2, p3, p4, p6, go_sem, fill_c, ↓reduceIte, reduceCtorEq, Nat.reduceAdd, Nat.reduceSub, Nat.reducePow, Nat.reduceMul, Nat.reduceEqDiff, Nat.reduceLT, Nat.reduceLeDiff, Int.reduceToNat, Int.reduceLT, Int.reduceLE, Int.reduceEq, Int.reduceNeg, Int.reduceAdd, Int.reduceSub, Int.reduceMul]
  refine xfc_of (er _ p n a ha) ?_
  rintro d h' ⟨rfl, e⟩
  refine ⟨⟨[], by rw [e, List.append_nil]⟩, ?_⟩
  rw [e]
  by_cases hc : checkF p a n = 0
  · have hf : fitsF p n = 0 := by
      unfold checkF at hc
      split at hc
      · rename_i h1; exact absurd hc h1
      · rename_i h1; simpa using h1
    obtain ⟨h0, h1⟩ := checkF_le hf
    obtain ⟨k, rfl⟩ := Int.eq_ofNat_of_zero_le h0
    by_cases hv : v = p
    · subst hv
      simp (disch := first | omega | (simp only [List.length_append, List.length_cons, List.length_nil]; omega)) only [hc, p1, p2, p3, p7, hbl, go_sem, fill_c, ↓reduceIte, reduceCtorEq, Nat.reduceAdd, Nat.reduceSub, Nat.reducePow, Nat.reduceMul, Nat.reduceEqDiff, Nat.reduceLT, Nat.reduceLeDiff, Int.reduceToNat, Int.reduceLT, Int.reduceLE, Int.reduceEq, Int.reduceNeg, Int.reduceAdd, Int.reduceSub, Int.reduceMul]
      refine xfc_of (rfront_fc _ b hb k (by omega)) ?_
      rintro d h' ⟨rfl, e⟩
      refine ⟨⟨[], by rw [e, List.append_nil]⟩, ?_⟩
      rw [e]
      have hfl := frontTo_length b k
      have hh : hasF v a (k : Int) v b = decide (frontTo b k = a) := by simp [hasF, hc]
      rw [hh]
      simp (disch := first | omega | (simp only [List.length_append, List.length_cons, List.length_nil]; omega)) only [hfl, ha, go_sem, fill_c, ↓reduceIte, reduceCtorEq, Nat.reduceAdd, Nat.reduceSub, Nat.reducePow, Nat.reduceMul, Nat.reduceEqDiff, Nat.reduceLT, Nat.reduceLeDiff, Int.reduceToNat, Int.reduceLT, Int.reduceLE, Int.reduceEq, Int.reduceNeg, Int.reduceAdd, Int.reduceSub, Int.reduceMul]
      exact FinOk.drop (.inl rfl) (by simp [underL, underD]) ⟨rfl, rfl⟩
    · have hh : hasF p a (k : Int) v b = false := by simp [hasF, hv]
      rw [hh]
      simp (disch := first | omega | (simp only [List.length_append, List.length_cons, List.length_nil]; omega)) only [hc, p2, hv, go_sem, fill_c, ↓reduceIte, reduceCtorEq, Nat.reduceAdd, Nat.reduceSub, Nat.reducePow, Nat.reduceMul, Nat.reduceEqDiff, Nat.reduceLT, Nat.reduceLeDiff, Int.reduceToNat, Int.reduceLT, Int.reduceLE, Int.reduceEq, Int.reduceNeg, Int.reduceAdd, Int.reduceSub, Int.reduceMul]
      exact FinOk.drop (.inl rfl) (by simp [underL, underD]) ⟨rfl, rfl⟩
  · have hh : hasF p a n v b = false := by simp [hasF, hc]
    rw [hh]
    simp (disch := first | omega | (simp only [List.length_append, List.length_cons, List.length_nil]; omega)) only [hc, go_sem, fill_c, ↓reduceIte, reduceCtorEq, Nat.reduceAdd, Nat.reduceSub, Nat.reducePow, Nat.reduceMul, Nat.reduceEqDiff, Nat.reduceLT, Nat.reduceLeDiff, Int.reduceToNat, Int.reduceLT, Int.reduceLE, Int.reduceEq, Int.reduceNeg, Int.reduceAdd, Int.reduceSub, Int.reduceMul]
    exact FinOk.drop (.inl rfl) (by simp [underL, underD]) ⟨rfl, rfl⟩

end Go.Proofs
