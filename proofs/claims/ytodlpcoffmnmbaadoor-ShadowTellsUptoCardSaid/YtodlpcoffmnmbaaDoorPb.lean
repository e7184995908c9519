/-
  Own work. The walks of prefix: most, fits, mask, Check, right, Has.
-/
import Derived.Test.YtodlpcoffmnmbaaDoorPa
namespace Go.Proofs
open Go Go.YtodlpcoffmnmbaaDoor
set_option linter.unusedVariables false
set_option linter.unusedSimpArgs false
set_option maxRecDepth 10000

/-! ### weighbridge/prefix.most, params 1 -/
def c59r0 : List AStm := [.op (some 2) none (.mv (.c (.int .i64 0))),
    .op (some 3) none (.mv (.c (.bool false)))]
def c59r1 : List AStm := [.op (some 4) none (.mv (.t 0))]
def c59r2 : List AStm := [.op (some 6) none (.bin .eql (.t 4) (.c (.int .i64 4))),
    .op (some 5) none (.mv (.t 6))]
def c59r3 : List AStm := [.op (some 2) none (.mv (.c (.int .i64 32))),
    .op (some 3) none (.mv (.c (.bool true)))]
def c59r4 : List AStm := [.op (some 8) none (.bin .eql (.t 4) (.c (.int .i64 6))),
    .op (some 7) none (.mv (.t 8))]
def c59r5 : List AStm := [.op (some 2) none (.mv (.c (.int .i64 128))),
    .op (some 3) none (.mv (.c (.bool true)))]
def c59r6 : List AStm := [.op (some 2) none (.mv (.c (.int .i64 0))),
    .op (some 3) none (.mv (.c (.bool false)))]
def c59 : CF := ⟨.seq (.reg c59r0) (.seq (.seq (.reg c59r1) (.block 0 (.seq (.reg c59r2) (.cond (.t 5) (.seq (.reg c59r3) (.ret)) (.seq (.reg c59r4) (.cond (.t 7) (.seq (.reg c59r5) (.ret)) (.skip))))))) (.seq (.reg c59r6) (.ret))), [.tmp 2, .tmp 3], 9⟩
theorem cf59 : cfun Tryd.prog 59 = some c59 := by kernel_rfl

/-! ### weighbridge/prefix.fits, params 2 -/
def c55r0 : List AStm := [.op (some 4) none (.mv (.c (.int .i64 0)))]
def c55r1 : List AStm := [.op (some 8) none (.mv (.t 0)),
    .call (some 9) none (.c (.fn (.func 59) [] [])) [(.t 8)],
    .op (some 7) none (.mv (.t 9)),
    .op (some 10) none (.ext (.t 7) 0),
    .op (some 11) none (.ext (.t 7) 1),
    .op (some 5) none (.mv (.t 10)),
    .op (some 6) none (.mv (.t 11))]
def c55r2 : List AStm := [.op (some 13) none (.mv (.t 6)),
    .op (some 14) none (.un .not (.t 13)),
    .op (some 12) none (.mv (.t 14))]
def c55r3 : List AStm := [.op (some 4) none (.mv (.c (.int .i64 4)))]
def c55r4 : List AStm := [.op (some 16) none (.mv (.t 1)),
    .op (some 17) none (.bin .lss (.t 16) (.c (.int .i64 0))),
    .op (some 18) none (.mv (.t 17)),
    .op (some 19) (some (18, false)) (.mv (.t 1)),
    .op (some 20) (some (18, false)) (.mv (.t 5)),
    .op (some 21) (some (18, false)) (.bin .gtr (.t 19) (.t 20)),
    .op (some 22) none (.pick (.t 18) (.c (.bool true)) (.t 21)),
    .op (some 15) none (.mv (.t 22))]
def c55r5 : List AStm := [.op (some 4) none (.mv (.c (.int .i64 1)))]
def c55r6 : List AStm := [.op (some 4) none (.mv (.c (.int .i64 0)))]
def c55 : CF := ⟨.seq (.reg c55r0) (.seq (.reg c55r1) (.seq (.block 0 (.seq (.reg c55r2) (.cond (.t 12) (.seq (.reg c55r3) (.ret)) (.seq (.reg c55r4) (.cond (.t 15) (.seq (.reg c55r5) (.ret)) (.skip)))))) (.seq (.reg c55r6) (.ret)))), [.tmp 4], 23⟩
theorem cf55 : cfun Tryd.prog 55 = some c55 := by kernel_rfl

/-! ### weighbridge/prefix.mask, params 2 -/
def c52r0 : List AStm := [.op (some 2) none (.box (.t 0)),
    .op (some 4) none (.alloc (List.replicate 16 (.int .u8 0)))]
def c52r1 : List AStm := [.op (some 7) none (.mv (.c (.int .i64 0)))]
def c52r2 : List AStm := [.op (some 8) none (.bin .lss (.t 7) (.c (.int .i64 16)))]
def c52r3 : List AStm := [.op (some 9) none (.mv (.t 7)),
    .op (some 5) none (.mv (.t 9))]
def c52r4 : List AStm := [.op (some 10) none (.mv (.t 1)),
    .op (some 11) none (.mv (.t 5)),
    .op (some 12) none (.bin .mul (.c (.int .i64 8)) (.t 11)),
    .op (some 13) none (.bin .sub (.t 10) (.t 12)),
    .op (some 6) none (.mv (.t 13))]
def c52r5 : List AStm := [.op (some 15) none (.mv (.t 6)),
    .op (some 16) none (.bin .leq (.t 15) (.c (.int .i64 0))),
    .op (some 14) none (.mv (.t 16))]
def c52r6 : List AStm := [.op (some 17) none (.mv (.t 5)),
    .op (some 18) none (.ixa 16 1 (.t 2) (.t 17)),
    .op none none (.store 1 (.t 18) (.c (.int .u8 0)))]
def c52r7 : List AStm := [.op (some 20) none (.mv (.t 6)),
    .op (some 21) none (.bin .lss (.t 20) (.c (.int .i64 8))),
    .op (some 19) none (.mv (.t 21))]
def c52r8 : List AStm := [.op (some 22) none (.mv (.t 5)),
    .op (some 23) none (.ixa 16 1 (.t 2) (.t 22)),
    .op (some 24) none (.load none (.t 23)),
    .op (some 25) none (.mv (.t 6)),
    .op (some 26) none (.bin .sub (.c (.int .i64 8)) (.t 25)),
    .op (some 27) none (.conv .u64 (.t 26)),
    .op (some 28) none (.bin .shl (.c (.int .u8 255)) (.t 27)),
    .op (some 29) none (.bin .and (.t 24) (.t 28)),
    .op (some 30) none (.ixa 16 1 (.t 2) (.t 22)),
    .op none none (.store 1 (.t 30) (.t 29))]
def c52r9 : List AStm := [.op (some 31) none (.bin .add (.t 7) (.c (.int .i64 1))),
    .op (some 7) none (.mv (.t 31))]
def c52l10 : AC := .seq (.reg c52r2) (.seq (.cond (.t 8) (.skip) (.exit 0)) (.seq (.block 1 (.seq (.reg c52r3) (.seq (.reg c52r4) (.block 2 (.seq (.reg c52r5) (.cond (.t 14) (.reg c52r6) (.seq (.reg c52r7) (.cond (.t 19) (.reg c52r8) (.skip))))))))) (.reg c52r9)))
def c52r11 : List AStm := [.op (some 32) none (.load (some 16) (.t 2)),
    .op none none (.store 16 (.t 4) (.t 32))]
def c52 : CF := ⟨.seq (.reg c52r0) (.seq (.seq (.reg c52r1) (.block 0 (.loop c52l10))) (.seq (.reg c52r11) (.ret))), [.cell 4 (some 16)], 33⟩
theorem cf52 : cfun Tryd.prog 52 = some c52 := by kernel_rfl

/-! ### weighbridge/prefix.Check, params 1 -/
def c48r0 : List AStm := [.op (some 1) none (.box (.t 0)),
    .op (some 2) none (.mv (.c (.int .i64 0)))]
def c48r1 : List AStm := [.op (some 4) none (.faddr 0 (.t 1)),
    .op (some 5) none (.load none (.t 4)),
    .op (some 6) none (.faddr 17 (.t 1)),
    .op (some 7) none (.load none (.t 6)),
    .call (some 8) none (.c (.fn (.func 55) [] [])) [(.t 5), (.t 7)],
    .op (some 3) none (.mv (.t 8))]
def c48r2 : List AStm := [.op (some 9) none (.mv (.t 3)),
    .op (some 10) none (.bin .neq (.t 9) (.c (.int .i64 0)))]
def c48r3 : List AStm := [.op (some 11) none (.mv (.t 3)),
    .op (some 2) none (.mv (.t 11))]
def c48r4 : List AStm := []
def c48r5 : List AStm := [.op (some 12) none (.faddr 1 (.t 1)),
    .op (some 13) none (.load (some 16) (.t 12)),
    .op (some 14) none (.faddr 17 (.t 1)),
    .op (some 15) none (.load none (.t 14)),
    .op (some 17) none (.faddr 1 (.t 1)),
    .op (some 18) none (.load (some 16) (.t 17)),
    .callG (some 16) none (.c (.fn (.func 52) [] [])) [(.t 13), (.t 15)],
    .op (some 19) none (.eqa true (List.replicate 16 .ki) (.t 16) (.t 18))]
def c48r6 : List AStm := [.op (some 2) none (.mv (.c (.int .i64 5)))]
def c48r7 : List AStm := [.op (some 2) none (.mv (.c (.int .i64 0)))]
def c48 : CF := ⟨.seq (.reg c48r0) (.seq (.seq (.reg c48r1) (.seq (.reg c48r2) (.cond (.t 10) (.seq (.reg c48r3) (.ret)) (.skip)))) (.seq (.seq (.dreg c48r4 c48r5) (.cond (.t 19) (.seq (.reg c48r6) (.ret)) (.skip))) (.seq (.reg c48r7) (.ret)))), [.tmp 2], 20⟩
theorem cf48 : cfun Tryd.prog 48 = some c48 := by kernel_rfl

/-! ### weighbridge/prefix.right, params 1 -/
def c42r0 : List AStm := [.op (some 1) none (.box (.t 0)),
    .op (some 2) none (.mv (.c (.bool false)))]
def c42r1 : List AStm := [.op (some 3) none (.load (some 18) (.t 1)),
    .call (some 4) none (.c (.fn (.func 48) [] [])) [(.t 3)],
    .op (some 5) none (.bin .eql (.t 4) (.c (.int .i64 0))),
    .op (some 2) none (.mv (.t 5))]
def c42 : CF := ⟨.seq (.reg c42r0) (.seq (.reg c42r1) (.ret)), [.tmp 2], 6⟩
theorem cf42 : cfun Tryd.prog 42 = some c42 := by kernel_rfl

/-! ### weighbridge/prefix.Has, params 3 -/
def c43r0 : List AStm := [.op (some 3) none (.box (.t 0)),
    .op (some 5) none (.box (.t 2)),
    .op (some 6) none (.mv (.c (.bool false)))]
def c43r1 : List AStm := []
def c43r2 : List AStm := [.op (some 7) none (.load (some 18) (.t 3)),
    .callG (some 8) none (.c (.fn (.func 42) [] [])) [(.t 7)],
    .op (some 9) none (.mv (.t 8)),
    .op (some 10) (some (9, true)) (.mv (.t 1)),
    .op (some 11) (some (9, true)) (.faddr 0 (.t 3)),
    .op (some 12) (some (9, true)) (.load none (.t 11)),
    .op (some 13) (some (9, true)) (.bin .eql (.t 10) (.t 12)),
    .op (some 14) none (.pick (.t 9) (.t 13) (.c (.bool false))),
    .op (some 15) none (.mv (.t 14)),
    .op (some 16) (some (15, true)) (.load (some 16) (.t 5)),
    .op (some 17) (some (15, true)) (.faddr 17 (.t 3)),
    .op (some 18) (some (15, true)) (.load none (.t 17)),
    .op (some 20) (some (15, true)) (.faddr 1 (.t 3)),
    .op (some 21) (some (15, true)) (.load (some 16) (.t 20)),
    .callG (some 19) (some (15, true)) (.c (.fn (.func 52) [] [])) [(.t 16), (.t 18)],
    .op (some 22) (some (15, true)) (.eqa false (List.replicate 16 .ki) (.t 19) (.t 21)),
    .op (some 23) none (.pick (.t 15) (.t 22) (.c (.bool false))),
    .op (some 6) none (.mv (.t 23))]
def c43 : CF := ⟨.seq (.reg c43r0) (.seq (.dreg c43r1 c43r2) (.ret)), [.tmp 6], 24⟩
theorem cf43 : cfun Tryd.prog 43 = some c43 := by kernel_rfl



def prefD (v : Int) (a : List UInt8) (n : Int) : D := .agg (.int .i64 v :: (ofBytes a ++ [.int .i64 n]))
theorem pr_take {a : List UInt8} (ha : a.length = 16) (x : List D) : (ofBytes a ++ x).take 16 = ofBytes a := by
  have : (ofBytes a).length = 16 := by rw [ofBytes_length, ha]
  rw [List.take_append_of_le_length (by omega), List.take_of_length_le (by omega)]
theorem pr_drop {a : List UInt8} (ha : a.length = 16) (x : List D) : (ofBytes a ++ x).drop 16 = x := by
  have : (ofBytes a).length = 16 := by rw [ofBytes_length, ha]
  rw [List.drop_append_of_le_length (by omega), List.drop_eq_nil_of_le (by omega)]; rfl
theorem under_bytes (k : Nat) : ∀ l : List UInt8, underL k (ofBytes l) = true
  | [] => rfl
  | b :: l => by
    have := under_bytes k l
    simp only [ofBytes] at this ⊢
    simp [underL, underD, this]
theorem under_app (k : Nat) : ∀ a b : List D, underL k (a ++ b) = (underL k a && underL k b)
  | [], b => by simp [underL]
  | x :: a, b => by
    have := under_app k a b
    simp only [List.cons_append, underL, this, Bool.and_assoc]
theorem pr_one (a : List UInt8) (n : Int) : (ofBytes a ++ [D.int .i64 n]).all D.one = true := by
  rw [List.all_append, ofBytes_one]; rfl
theorem pr_len {a : List UInt8} (ha : a.length = 16) (x : D) : (ofBytes a ++ [x]).length = 17 := by
  rw [List.length_append, ofBytes_length, ha]; rfl
theorem ofBytes_put (l : List UInt8) (k : Nat) (b : UInt8) : ofBytes (l.set k b) = (ofBytes l).set k (.int .u8 (b.toNat : Int)) := by
  simp [ofBytes, List.map_set]

theorem wrap8 (x : Nat) : IntKind.u8.wrap (x : Int) = ((x % 256 : Nat) : Int) := by
  simp [IntKind.wrap, IntKind.bits, IntKind.signed]
def mostN (v : Int) : Int := match mostF v with | some m => (m : Int) | none => 0
theorem pmost_fc (h : Heap) (v : Int) : FC Tryd.prog 59 [.int .i64 v] h fun d h' => d = .tup [.int .i64 (mostN v), .bool (mostF v).isSome] ∧ h' = h := by
  refine FC.goes cf59 ?_; simp only [c59]; simp only [List.length_cons, List.length_nil, Nat.reduceAdd, Nat.reduceSub, List.replicate_succ, List.replicate_zero, List.cons_append, List.nil_append]
  by_cases h4 : v = 4
  · subst h4
    simp (disch := first | omega | (simp only [List.length_append, List.length_cons, List.length_nil]; omega)) only [c59r0, c59r1, c59r2, c59r3, c59r4, c59r5, c59r6, go_sem, fill_c, ↓reduceIte, reduceCtorEq, Nat.reduceAdd, Nat.reduceSub, Nat.reducePow, Nat.reduceMul, Nat.reduceEqDiff, Nat.reduceLT, Nat.reduceLeDiff, Int.reduceToNat, Int.reduceLT, Int.reduceLE, Int.reduceEq, Int.reduceNeg, Int.reduceAdd, Int.reduceSub, Int.reduceMul]
    exact FinOk.all ⟨rfl, rfl⟩
  · by_cases h6 : v = 6
    · subst h6
      simp (disch := first | omega | (simp only [List.length_append, List.length_cons, List.length_nil]; omega)) only [c59r0, c59r1, c59r2, c59r3, c59r4, c59r5, c59r6, go_sem, fill_c, ↓reduceIte, reduceCtorEq, Nat.reduceAdd, Nat.reduceSub, Nat.reducePow, Nat.reduceMul, Nat.reduceEqDiff, Nat.reduceLT, Nat.reduceLeDiff, Int.reduceToNat, Int.reduceLT, Int.reduceLE, Int.reduceEq, Int.reduceNeg, Int.reduceAdd, Int.reduceSub, Int.reduceMul]
      exact FinOk.all ⟨rfl, rfl⟩
    · have e1 : mostF v = none := by simp [mostF, h4, h6]
      have e2 : mostN v = 0 := by rw [mostN, e1]
      rw [e1, e2]
      simp (disch := first | omega | (simp only [List.length_append, List.length_cons, List.length_nil]; omega)) only [c59r0, c59r1, c59r2, c59r3, c59r4, c59r5, c59r6, h4, h6, go_sem, fill_c, ↓reduceIte, reduceCtorEq, Nat.reduceAdd, Nat.reduceSub, Nat.reducePow, Nat.reduceMul, Nat.reduceEqDiff, Nat.reduceLT, Nat.reduceLeDiff, Int.reduceToNat, Int.reduceLT, Int.reduceLE, Int.reduceEq, Int.reduceNeg, Int.reduceAdd, Int.reduceSub, Int.reduceMul]
      exact FinOk.all ⟨rfl, rfl⟩
theorem mostF_le {v : Int} {m : Nat} (h : mostF v = some m) : m ≤ 128 := by
  unfold mostF at h
  split at h
  · injection h with h; omega
  · split at h
    · injection h with h; omega
    · cases h
theorem fits_fc (h : Heap) (v n : Int) : FC Tryd.prog 55 [.int .i64 v, .int .i64 n] h fun d h' => d = .int .i64 (fitsF v n) ∧ h' = h := by
  refine FC.goes cf55 ?_; simp only [c55]; simp only [List.length_cons, List.length_nil, Nat.reduceAdd, Nat.reduceSub, List.replicate_succ, List.replicate_zero, List.cons_append, List.nil_append]
  simp (disch := first | omega | (simp only [List.length_append, List.length_cons, List.length_nil]; omega)) only [c55r0, c55r1, c55r2, c55r3, c55r4, c55r5, c55r6, go_sem, fill_c, ↓reduceIte, reduceCtorEq, Nat.reduceAdd, Nat.reduceSub, Nat.reducePow, Nat.reduceMul, Nat.reduceEqDiff, Nat.reduceLT, Nat.reduceLeDiff, Int.reduceToNat, Int.reduceLT, Int.reduceLE, Int.reduceEq, Int.reduceNeg, Int.reduceAdd, Int.reduceSub, Int.reduceMul]
  refine gfc_of (pmost_fc _ v) ?_
  rintro d h' ⟨rfl, e⟩
  rw [e]
  cases hm : mostF v with
  | none =>
    have hf : fitsF v n = 4 := by simp [fitsF, hm]
    rw [hf]
    simp (disch := first | omega | (simp only [List.length_append, List.length_cons, List.length_nil]; omega)) only [Option.isSome_none, go_sem, fill_c, ↓reduceIte, reduceCtorEq, Nat.reduceAdd, Nat.reduceSub, Nat.reducePow, Nat.reduceMul, Nat.reduceEqDiff, Nat.reduceLT, Nat.reduceLeDiff, Int.reduceToNat, Int.reduceLT, Int.reduceLE, Int.reduceEq, Int.reduceNeg, Int.reduceAdd, Int.reduceSub, Int.reduceMul]
    exact FinOk.all ⟨rfl, rfl⟩
  | some m =>
    have e1 : mostN v = (m : Int) := by rw [mostN, hm]
    rw [e1]
    by_cases h0 : n < 0
    · have hf : fitsF v n = 1 := by simp [fitsF, hm, h0]
      rw [hf]
      simp (disch := first | omega | (simp only [List.length_append, List.length_cons, List.length_nil]; omega)) only [Option.isSome_some, h0, go_sem, fill_c, ↓reduceIte, reduceCtorEq, Nat.reduceAdd, Nat.reduceSub, Nat.reducePow, Nat.reduceMul, Nat.reduceEqDiff, Nat.reduceLT, Nat.reduceLeDiff, Int.reduceToNat, Int.reduceLT, Int.reduceLE, Int.reduceEq, Int.reduceNeg, Int.reduceAdd, Int.reduceSub, Int.reduceMul]
      exact FinOk.all ⟨rfl, rfl⟩
    · by_cases h1 : (m : Int) < n
      · have hf : fitsF v n = 1 := by simp [fitsF, hm, h1]
        rw [hf]
        simp (disch := first | omega | (simp only [List.length_append, List.length_cons, List.length_nil]; omega)) only [Option.isSome_some, h0, h1, go_sem, fill_c, ↓reduceIte, reduceCtorEq, Nat.reduceAdd, Nat.reduceSub, Nat.reducePow, Nat.reduceMul, Nat.reduceEqDiff, Nat.reduceLT, Nat.reduceLeDiff, Int.reduceToNat, Int.reduceLT, Int.reduceLE, Int.reduceEq, Int.reduceNeg, Int.reduceAdd, Int.reduceSub, Int.reduceMul]
        exact FinOk.all ⟨rfl, rfl⟩
      · have hf : fitsF v n = 0 := by simp [fitsF, hm, h0, h1]
        rw [hf]
        simp (disch := first | omega | (simp only [List.length_append, List.length_cons, List.length_nil]; omega)) only [Option.isSome_some, h0, h1, go_sem, fill_c, ↓reduceIte, reduceCtorEq, Nat.reduceAdd, Nat.reduceSub, Nat.reducePow, Nat.reduceMul, Nat.reduceEqDiff, Nat.reduceLT, Nat.reduceLeDiff, Int.reduceToNat, Int.reduceLT, Int.reduceLE, Int.reduceEq, Int.reduceNeg, Int.reduceAdd, Int.reduceSub, Int.reduceMul]
        exact FinOk.all ⟨rfl, rfl⟩
theorem mask_fc (h : Heap) (a : List UInt8) (ha : a.length = 16) (n : Nat) (hn : n ≤ 128) : FC Tryd.prog 52 [.agg (ofBytes a), .int .i64 (n : Int)] h fun d h' => d = .agg (ofBytes (frontTo a n)) ∧ h' = h := by
  refine FC.goes cf52 ?_; simp only [c52]; simp only [List.length_cons, List.length_nil, Nat.reduceAdd, Nat.reduceSub, List.replicate_succ, List.replicate_zero, List.cons_append, List.nil_append]
  simp (disch := first | omega | (simp only [List.length_append, List.length_cons, List.length_nil]; omega)) only [c52r0, c52r1, c52r2, c52r3, c52r4, c52r5, c52r6, c52r7, c52r8, c52r9, c52l10, c52r11, go_sem, fill_c, ↓reduceIte, reduceCtorEq, Nat.reduceAdd, Nat.reduceSub, Nat.reducePow, Nat.reduceMul, Nat.reduceEqDiff, Nat.reduceLT, Nat.reduceLeDiff, Int.reduceToNat, Int.reduceLT, Int.reduceLE, Int.reduceEq, Int.reduceNeg, Int.reduceAdd, Int.reduceSub, Int.reduceMul]
  refine loop_to 16 (fun k st => ∃ (j : Nat → D), st = ⟨(j 0 :: .int .i64 (n : Int) :: .ref h.length 0 :: j 3 :: .ref (h.length + 1) 0 :: j 5 :: j 6 :: .int .i64 (k : Int) :: j 8 :: j 9 :: j 10 :: j 11 :: j 12 :: j 13 :: j 14 :: j 15 :: j 16 :: j 17 :: j 18 :: j 19 :: j 20 :: j 21 :: j 22 :: j 23 :: j 24 :: j 25 :: j 26 :: j 27 :: j 28 :: j 29 :: j 30 :: j 31 :: j 32 :: []), h ++ [.box (ofBytes (maskTo a n k)), .box (List.replicate 16 (.int .u8 0))]⟩) (by rw [maskTo_zero ha]; exact junk rfl) ?_
  rintro k st hk ⟨j, rfl⟩
  have hbl : (ofBytes (maskTo a n k)).length = 16 := by rw [ofBytes_length, maskTo_length]
  by_cases hk16 : k < 16
  · have hk' : (k : Int) < 16 := by omega
    have e1 : IntKind.i64.wrap (8 * (k : Int)) = ((8 * k : Nat) : Int) := by rw [w_i64 (by omega) (by omega)]; omega
    have e2 : IntKind.i64.wrap ((n : Int) - ((8 * k : Nat) : Int)) = (n : Int) - ((8 * k : Nat) : Int) := w_i64 (by omega) (by omega)
    have e5 : IntKind.i64.wrap ((k : Int) + 1) = ((k + 1 : Nat) : Int) := by rw [w_i64 (by omega) (by omega)]; omega
    have hset := maskTo_set a n k hk16
    by_cases h0 : (n : Int) - ((8 * k : Nat) : Int) ≤ 0
    · have hb : maskB (a.getD k 0) (n - 8 * k) = 0 := by
        have : n - 8 * k = 0 := by omega
        simp [maskB, this]
      simp (disch := first | omega | (simp only [List.length_append, List.length_cons, List.length_nil]; omega)) only [c52r0, c52r1, c52r2, c52r3, c52r4, c52r5, c52r6, c52r7, c52r8, c52r9, c52l10, c52r11, hk', e1, e2, h0, e5, hbl, go_sem, fill_c, ↓reduceIte, reduceCtorEq, Nat.reduceAdd, Nat.reduceSub, Nat.reducePow, Nat.reduceMul, Nat.reduceEqDiff, Nat.reduceLT, Nat.reduceLeDiff, Int.reduceToNat, Int.reduceLT, Int.reduceLE, Int.reduceEq, Int.reduceNeg, Int.reduceAdd, Int.reduceSub, Int.reduceMul]
      refine ⟨hk16, ?_⟩
      rw [← hset, hb, ofBytes_put]
      exact junk rfl
    · by_cases h8 : (n : Int) - ((8 * k : Nat) : Int) < 8
      · obtain ⟨left, hl⟩ : ∃ left : Nat, n = 8 * k + left := ⟨n - 8 * k, by omega⟩
        have hl2 : n - 8 * k = left := by omega
        have hl3 : (n : Int) - ((8 * k : Nat) : Int) = (left : Int) := by omega
        rw [hl2] at hset
        rw [hl3] at e2 h0 h8
        have e2' : IntKind.i64.wrap ((n : Int) - ((8 * k : Nat) : Int)) = (left : Int) := by rw [hl3]; exact e2
        have e6 : IntKind.i64.wrap (8 - (left : Int)) = ((8 - left : Nat) : Int) := by rw [w_i64 (by omega) (by omega)]; omega
        have e7 : IntKind.u64.wrap ((8 - left : Nat) : Int) = ((8 - left : Nat) : Int) := w_u64 (by omega) (by omega)
        have hg : (List.drop k (ofBytes (maskTo a n k)))[0]? = some (.int .u8 ((a.getD k 0).toNat : Int)) := by
          rw [List.getElem?_drop, Nat.add_zero, ofBytes_get, getB (by rw [maskTo_length]; omega), maskTo_getD _ _ _ _ hk16, if_neg (by omega)]; rfl
        have a1 : arith .shl (.int .u8 255) (.int .u64 ((8 - left : Nat) : Int)) = some (.int .u8 (((255 <<< (8 - left)) % 256 : Nat) : Int)) := by
          have := shl_u8 (x := 255) (k' := .u64) (b := ((8 - left : Nat) : Int)) (by omega) (by omega)
          rw [Int.toNat_natCast, wrap8, ← Nat.shiftLeft_eq] at this
          exact this
        have a2 : arith .and (.int .u8 ((a.getD k 0).toNat : Int)) (.int .u8 (((255 <<< (8 - left)) % 256 : Nat) : Int)) = some (.int .u8 (((a.getD k 0).toNat &&& ((255 <<< (8 - left)) % 256) : Nat) : Int)) := and_u8 (a.getD k 0).toNat_lt (Nat.mod_lt _ (by omega))
        have hb : maskB (a.getD k 0) left = UInt8.ofNat ((a.getD k 0).toNat &&& ((255 <<< (8 - left)) % 256)) := by
          have h1 : ¬ left = 0 := by omega
          have h2 : left < 8 := by omega
          simp [maskB, h1, h2]
        have hbt : (UInt8.ofNat ((a.getD k 0).toNat &&& ((255 <<< (8 - left)) % 256))).toNat = (a.getD k 0).toNat &&& ((255 <<< (8 - left)) % 256) := UInt8.toNat_ofNat_of_lt' (by exact maskB_lt _ _)
        simp (disch := first | omega | (simp only [List.length_append, List.length_cons, List.length_nil]; omega)) only [c52r0, c52r1, c52r2, c52r3, c52r4, c52r5, c52r6, c52r7, c52r8, c52r9, c52l10, c52r11, hk', e1, e2', h0, h8, e5, e6, e7, hbl, hg, a1, a2, go_sem, fill_c, ↓reduceIte, reduceCtorEq, Nat.reduceAdd, Nat.reduceSub, Nat.reducePow, Nat.reduceMul, Nat.reduceEqDiff, Nat.reduceLT, Nat.reduceLeDiff, Int.reduceToNat, Int.reduceLT, Int.reduceLE, Int.reduceEq, Int.reduceNeg, Int.reduceAdd, Int.reduceSub, Int.reduceMul]
        refine ⟨hk16, ?_⟩
        rw [← hset, hb, ofBytes_put, hbt]
        exact junk rfl
      · have hb : maskB (a.getD k 0) (n - 8 * k) = a.getD k 0 := by
          have h1 : ¬ n - 8 * k = 0 := by omega
          have h2 : ¬ n - 8 * k < 8 := by omega
          unfold maskB
          rw [if_neg h1, if_neg h2]
        have hsame : maskTo a n (k + 1) = maskTo a n k := by
          rw [← hset, hb]
          refine bytes_ext (by simp) fun i hi => ?_
          rw [List.length_set, maskTo_length] at hi
          rw [getD_set8, maskTo_length]
          split
          · rename_i hc
            obtain ⟨rfl, _⟩ := hc
            rw [maskTo_getD _ _ _ _ hi, if_neg (by omega)]
          · rfl
        simp (disch := first | omega | (simp only [List.length_append, List.length_cons, List.length_nil]; omega)) only [c52r0, c52r1, c52r2, c52r3, c52r4, c52r5, c52r6, c52r7, c52r8, c52r9, c52l10, c52r11, hk', e1, e2, h0, h8, e5, go_sem, fill_c, ↓reduceIte, reduceCtorEq, Nat.reduceAdd, Nat.reduceSub, Nat.reducePow, Nat.reduceMul, Nat.reduceEqDiff, Nat.reduceLT, Nat.reduceLeDiff, Int.reduceToNat, Int.reduceLT, Int.reduceLE, Int.reduceEq, Int.reduceNeg, Int.reduceAdd, Int.reduceSub, Int.reduceMul]
        refine ⟨hk16, ?_⟩
        rw [hsame]
        exact junk rfl
  · have hk' : ¬ (k : Int) < 16 := by omega
    have : k = 16 := by omega
    subst this
    rw [mask_front hn] at hbl ⊢
    have htk : List.take 16 (ofBytes (frontTo a n)) = ofBytes (frontTo a n) := List.take_of_length_le (by omega)
    simp (disch := first | omega | (simp only [List.length_append, List.length_cons, List.length_nil]; omega)) only [c52r0, c52r1, c52r2, c52r3, c52r4, c52r5, c52r6, c52r7, c52r8, c52r9, c52l10, c52r11, hk', hbl, htk, go_sem, fill_c, ↓reduceIte, reduceCtorEq, Nat.reduceAdd, Nat.reduceSub, Nat.reducePow, Nat.reduceMul, Nat.reduceEqDiff, Nat.reduceLT, Nat.reduceLeDiff, Int.reduceToNat, Int.reduceLT, Int.reduceLE, Int.reduceEq, Int.reduceNeg, Int.reduceAdd, Int.reduceSub, Int.reduceMul]
    exact FinOk.drop (.inl rfl) (by simp [underL, underD, under_bytes]) ⟨rfl, rfl⟩

theorem checkF_le {v n : Int} (h : fitsF v n = 0) : 0 ≤ n ∧ n ≤ 128 := by
  unfold fitsF at h
  split at h
  · cases h
  · rename_i m hm
    have := mostF_le hm
    split at h
    · cases h
    · omega
theorem pcheck_fc (h : Heap) (v n : Int) (a : List UInt8) (ha : a.length = 16) : FC Tryd.prog 48 [prefD v a n] h fun d h' => d = .int .i64 (checkF v a n) ∧ h' = h := by
  have p1 := pr_take ha [.int .i64 n]
  have p2 := pr_drop ha [.int .i64 n]
  have p3 := pr_len ha (.int .i64 n)
  have p4 := pr_one a n
  refine FC.goes cf48 ?_; simp only [c48]; simp only [List.length_cons, List.length_nil, Nat.reduceAdd, Nat.reduceSub, List.replicate_succ, List.replicate_zero, List.cons_append, List.nil_append]
  simp (disch := first | omega | (simp only [List.length_append, List.length_cons, List.length_nil]; omega)) only [c48r0, c48r1, c48r2, c48r3, c48r4, c48r5, c48r6, c48r7, prefD, p2, p3, p4, go_sem, fill_c, ↓reduceIte, reduceCtorEq, Nat.reduceAdd, Nat.reduceSub, Nat.reducePow, Nat.reduceMul, Nat.reduceEqDiff, Nat.reduceLT, Nat.reduceLeDiff, Int.reduceToNat, Int.reduceLT, Int.reduceLE, Int.reduceEq, Int.reduceNeg, Int.reduceAdd, Int.reduceSub, Int.reduceMul]
  refine gfc_of (fits_fc _ v n) ?_
  rintro d h' ⟨rfl, e⟩
  rw [e]
  by_cases hf : fitsF v n = 0
  · have hc : checkF v a n = if frontTo a n.toNat = a then 0 else 5 := by simp [checkF, hf]
    obtain ⟨h0, h1⟩ := checkF_le hf
    obtain ⟨k, rfl⟩ := Int.eq_ofNat_of_zero_le h0
    rw [show ((k : Int)).toNat = k from rfl] at hc
    rw [hf, hc]
    simp (disch := first | omega | (simp only [List.length_append, List.length_cons, List.length_nil]; omega)) only [p1, p2, p3, go_sem, fill_c, ↓reduceIte, reduceCtorEq, Nat.reduceAdd, Nat.reduceSub, Nat.reducePow, Nat.reduceMul, Nat.reduceEqDiff, Nat.reduceLT, Nat.reduceLeDiff, Int.reduceToNat, Int.reduceLT, Int.reduceLE, Int.reduceEq, Int.reduceNeg, Int.reduceAdd, Int.reduceSub, Int.reduceMul]
    refine xfc_of (mask_fc _ a ha k (by omega)) ?_
    rintro d h' ⟨rfl, e⟩
    refine ⟨⟨[], by rw [e, List.append_nil]⟩, ?_⟩
    rw [e]
    have hfl := frontTo_length a k
    by_cases he : frontTo a k = a
    · rw [he]
      simp (disch := first | omega | (simp only [List.length_append, List.length_cons, List.length_nil]; omega)) only [ha, go_sem, fill_c, ↓reduceIte, reduceCtorEq, Nat.reduceAdd, Nat.reduceSub, Nat.reducePow, Nat.reduceMul, Nat.reduceEqDiff, Nat.reduceLT, Nat.reduceLeDiff, Int.reduceToNat, Int.reduceLT, Int.reduceLE, Int.reduceEq, Int.reduceNeg, Int.reduceAdd, Int.reduceSub, Int.reduceMul]
      exact FinOk.drop (.inl rfl) (by simp [underL, underD]) ⟨rfl, rfl⟩
    · simp (disch := first | omega | (simp only [List.length_append, List.length_cons, List.length_nil]; omega)) only [he, hfl, ha, go_sem, fill_c, ↓reduceIte, reduceCtorEq, Nat.reduceAdd, Nat.reduceSub, Nat.reducePow, Nat.reduceMul, Nat.reduceEqDiff, Nat.reduceLT, Nat.reduceLeDiff, Int.reduceToNat, Int.reduceLT, Int.reduceLE, Int.reduceEq, Int.reduceNeg, Int.reduceAdd, Int.reduceSub, Int.reduceMul]
      exact FinOk.drop (.inl rfl) (by simp [underL, underD]) ⟨rfl, rfl⟩
  · have hc : checkF v a n = fitsF v n := by simp [checkF, hf]
    rw [hc]
    simp (disch := first | omega | (simp only [List.length_append, List.length_cons, List.length_nil]; omega)) only [hf, go_sem, fill_c, ↓reduceIte, reduceCtorEq, Nat.reduceAdd, Nat.reduceSub, Nat.reducePow, Nat.reduceMul, Nat.reduceEqDiff, Nat.reduceLT, Nat.reduceLeDiff, Int.reduceToNat, Int.reduceLT, Int.reduceLE, Int.reduceEq, Int.reduceNeg, Int.reduceAdd, Int.reduceSub, Int.reduceMul]
    exact FinOk.drop (.inl rfl) (by simp [underL, underD]) ⟨rfl, rfl⟩

theorem pr_all {a : List UInt8} (ha : a.length = 16) (v n : Int) : (D.int .i64 v :: (ofBytes a ++ [.int .i64 n])).take 18 = D.int .i64 v :: (ofBytes a ++ [.int .i64 n]) := by
  have := pr_len ha (.int .i64 n)
  exact List.take_of_length_le (by rw [List.length_cons]; omega)
theorem right_fc (h : Heap) (v n : Int) (a : List UInt8) (ha : a.length = 16) : FC Tryd.prog 42 [prefD v a n] h fun d h' => d = .bool (decide (checkF v a n = 0)) ∧ h' = h := by
  have p2 := pr_drop ha [.int .i64 n]
  have p3 := pr_len ha (.int .i64 n)
  have p4 := pr_one a n
  have p5 := pr_all ha v n
  refine FC.goes cf42 ?_; simp only [c42]; simp only [List.length_cons, List.length_nil, Nat.reduceAdd, Nat.reduceSub, List.replicate_succ, List.replicate_zero, List.cons_append, List.nil_append]
  simp (disch := first | omega | (simp only [List.length_append, List.length_cons, List.length_nil]; omega)) only [c42r0, c42r1, prefD, p2, p3, p4, p5, go_sem, fill_c, ↓reduceIte, reduceCtorEq, Nat.reduceAdd, Nat.reduceSub, Nat.reducePow, Nat.reduceMul, Nat.reduceEqDiff, Nat.reduceLT, Nat.reduceLeDiff, Int.reduceToNat, Int.reduceLT, Int.reduceLE, Int.reduceEq, Int.reduceNeg, Int.reduceAdd, Int.reduceSub, Int.reduceMul]
  have e := pcheck_fc
  unfold prefD at e
  have p6 : List.take 17 (ofBytes a ++ [D.int .i64 n]) = ofBytes a ++ [D.int .i64 n] := List.take_of_length_le (by omega)
  try rw [p6]
  refine gfc_of (e _ v n a ha) ?_
  rintro d h' ⟨rfl, e⟩
  rw [e]
  simp (disch := first | omega | (simp only [List.length_append, List.length_cons, List.length_nil]; omega)) only [go_sem, fill_c, ↓reduceIte, reduceCtorEq, Nat.reduceAdd, Nat.reduceSub, Nat.reducePow, Nat.reduceMul, Nat.reduceEqDiff, Nat.reduceLT, Nat.reduceLeDiff, Int.reduceToNat, Int.reduceLT, Int.reduceLE, Int.reduceEq, Int.reduceNeg, Int.reduceAdd, Int.reduceSub, Int.reduceMul]
  exact FinOk.drop (.inl rfl) (by simp [underL, underD]) ⟨rfl, rfl⟩

/-- Has an address a prefix? -/
def hasF (p : Int) (a : List UInt8) (n v : Int) (b : List UInt8) : Bool := decide (checkF p a n = 0) && (decide (v = p) && decide (frontTo b n.toNat = a))
theorem phas_fc (h : Heap) (p n v : Int) (a b : List UInt8) (ha : a.length = 16) (hb : b.length = 16) : FC Tryd.prog 43 [prefD p a n, .int .i64 v, .agg (ofBytes b)] h fun d h' => d = .bool (hasF p a n v b) ∧ h' = h := by
  have p1 := pr_take ha [.int .i64 n]
  have p2 := pr_drop ha [.int .i64 n]
  have p3 := pr_len ha (.int .i64 n)
  have p4 := pr_one a n
  have p6 : List.take 17 (ofBytes a ++ [D.int .i64 n]) = ofBytes a ++ [D.int .i64 n] := List.take_of_length_le (by omega)
  have hbl : (ofBytes b).length = 16 := by rw [ofBytes_length, hb]
  have p7 : List.take 16 (ofBytes b) = ofBytes b := List.take_of_length_le (by omega)
  have er := right_fc
  unfold prefD at er
  refine FC.goes cf43 ?_; simp only [c43]; simp only [List.length_cons, List.length_nil, Nat.reduceAdd, Nat.reduceSub, List.replicate_succ, List.replicate_zero, List.cons_append, List.nil_append]
  simp (disch := first | omega | (simp only [List.length_append, List.length_cons, List.length_nil]; omega)) only [c43r0, c43r1, c43r2, prefD, p2, p3, p4, p6, go_sem, fill_c, ↓reduceIte, reduceCtorEq, Nat.reduceAdd, Nat.reduceSub, Nat.reducePow, Nat.reduceMul, Nat.reduceEqDiff, Nat.reduceLT, Nat.reduceLeDiff, Int.reduceToNat, Int.reduceLT, Int.reduceLE, Int.reduceEq, Int.reduceNeg, Int.reduceAdd, Int.reduceSub, Int.reduceMul]
  refine xfc_of (er _ p n a ha) ?_
  rintro d h' ⟨rfl, e⟩
  refine ⟨⟨[], by rw [e, List.append_nil]⟩, ?_⟩
  rw [e]
  by_cases hc : checkF p a n = 0
  · have hf : fitsF p n = 0 := by
      unfold checkF at hc
      split at hc
      · rename_i h1; exact absurd hc h1
      · rename_i h1; simpa using h1
    obtain ⟨h0, h1⟩ := checkF_le hf
    obtain ⟨k, rfl⟩ := Int.eq_ofNat_of_zero_le h0
    by_cases hv : v = p
    · subst hv
      simp (disch := first | omega | (simp only [List.length_append, List.length_cons, List.length_nil]; omega)) only [hc, p1, p2, p3, p7, hbl, go_sem, fill_c, ↓reduceIte, reduceCtorEq, Nat.reduceAdd, Nat.reduceSub, Nat.reducePow, Nat.reduceMul, Nat.reduceEqDiff, Nat.reduceLT, Nat.reduceLeDiff, Int.reduceToNat, Int.reduceLT, Int.reduceLE, Int.reduceEq, Int.reduceNeg, Int.reduceAdd, Int.reduceSub, Int.reduceMul]
      refine xfc_of (mask_fc _ b hb k (by omega)) ?_
      rintro d h' ⟨rfl, e⟩
      refine ⟨⟨[], by rw [e, List.append_nil]⟩, ?_⟩
      rw [e]
      have hfl := frontTo_length b k
      have hh : hasF v a (k : Int) v b = decide (frontTo b k = a) := by simp [hasF, hc]
      rw [hh]
      simp (disch := first | omega | (simp only [List.length_append, List.length_cons, List.length_nil]; omega)) only [hfl, ha, go_sem, fill_c, ↓reduceIte, reduceCtorEq, Nat.reduceAdd, Nat.reduceSub, Nat.reducePow, Nat.reduceMul, Nat.reduceEqDiff, Nat.reduceLT, Nat.reduceLeDiff, Int.reduceToNat, Int.reduceLT, Int.reduceLE, Int.reduceEq, Int.reduceNeg, Int.reduceAdd, Int.reduceSub, Int.reduceMul]
      exact FinOk.drop (.inl rfl) (by simp [underL, underD]) ⟨rfl, rfl⟩
    · have hh : hasF p a (k : Int) v b = false := by simp [hasF, hv]
      rw [hh]
      simp (disch := first | omega | (simp only [List.length_append, List.length_cons, List.length_nil]; omega)) only [hc, p2, hv, go_sem, fill_c, ↓reduceIte, reduceCtorEq, Nat.reduceAdd, Nat.reduceSub, Nat.reducePow, Nat.reduceMul, Nat.reduceEqDiff, Nat.reduceLT, Nat.reduceLeDiff, Int.reduceToNat, Int.reduceLT, Int.reduceLE, Int.reduceEq, Int.reduceNeg, Int.reduceAdd, Int.reduceSub, Int.reduceMul]
      exact FinOk.drop (.inl rfl) (by simp [underL, underD]) ⟨rfl, rfl⟩
  · have hh : hasF p a n v b = false := by simp [hasF, hc]
    rw [hh]
    simp (disch := first | omega | (simp only [List.length_append, List.length_cons, List.length_nil]; omega)) only [hc, go_sem, fill_c, ↓reduceIte, reduceCtorEq, Nat.reduceAdd, Nat.reduceSub, Nat.reducePow, Nat.reduceMul, Nat.reduceEqDiff, Nat.reduceLT, Nat.reduceLeDiff, Int.reduceToNat, Int.reduceLT, Int.reduceLE, Int.reduceEq, Int.reduceNeg, Int.reduceAdd, Int.reduceSub, Int.reduceMul]
    exact FinOk.drop (.inl rfl) (by simp [underL, underD]) ⟨rfl, rfl⟩
end Go.Proofs
