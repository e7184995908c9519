/-
  Own work. The document's Check of rules.
-/
import Derived.Test.YtodlpcoffmnmbaaDoorJd
import Derived.Test.YtodlpcoffmnmbaaDoorB2
namespace Go.Proofs
open Go Go.YtodlpcoffmnmbaaDoor
set_option linter.unusedVariables false
set_option linter.unusedSimpArgs false
set_option maxRecDepth 10000

/-! ### weighbridge/weighbridgeref17.Check, params 1 -/
def c31r0 : List AStm := [.op (some 1) none (.box (.t 0)),
    .op (some 2) none (.mv (.c (.int .i64 0)))]
def c31r1 : List AStm := []
def c31r2 : List AStm := [.op (some 5) none (.faddr 0 (.t 1)),
    .op (some 6) none (.load (some 18) (.t 5)),
    .op (some 8) none (.faddr 18 (.t 1)),
    .op (some 9) none (.load (some 18) (.t 8)),
    .op (some 11) none (.faddr 36 (.t 1)),
    .op (some 12) none (.load (some 2) (.t 11)),
    .op (some 14) none (.faddr 38 (.t 1)),
    .op (some 15) none (.load (some 2) (.t 14)),
    .callG (some 7) none (.c (.fn (.func 44) [] [])) [(.t 6)],
    .callG (some 10) none (.c (.fn (.func 44) [] [])) [(.t 9)],
    .callG (some 13) none (.c (.fn (.func 38) [] [])) [(.t 12)],
    .call (some 16) none (.c (.fn (.func 38) [] [])) [(.t 15)],
    .op (some 17) none (.bslice 1 (List.replicate 8 (.int .i64 0)) 8 [(0, 1, (.t 7)), (1, 1, (.t 10)), (2, 1, (.c (.int .i64 0))), (3, 1, (.t 13)), (4, 1, (.t 16)), (5, 1, (.c (.int .i64 0))), (6, 1, (.c (.int .i64 0))), (7, 1, (.c (.int .i64 0)))]),
    .op (some 3) none (.mv (.t 17))]
def c31r3 : List AStm := [.op (some 18) none (.faddr 0 (.t 1)),
    .op (some 19) none (.faddr 0 (.t 18)),
    .op (some 20) none (.load none (.t 19)),
    .op (some 21) none (.faddr 18 (.t 1)),
    .op (some 22) none (.faddr 0 (.t 21)),
    .op (some 23) none (.load none (.t 22)),
    .op (some 24) none (.bin .neq (.t 20) (.t 23))]
def c31r4 : List AStm := [.op (some 25) none (.mv (.t 3)),
    .op (some 26) none (.ixs 1 (.t 25) (.c (.int .i64 2))),
    .op none none (.store 1 (.t 26) (.c (.int .i64 4)))]
def c31r5 : List AStm := [.op (some 27) none (.faddr 40 (.t 1)),
    .op (some 28) none (.load none (.t 27)),
    .op (some 29) none (.bin .lss (.t 28) (.c (.int .i64 (-1)))),
    .op (some 30) none (.mv (.t 29)),
    .op (some 31) (some (30, false)) (.faddr 40 (.t 1)),
    .op (some 32) (some (30, false)) (.load none (.t 31)),
    .op (some 33) (some (30, false)) (.bin .gtr (.t 32) (.c (.int .i64 255))),
    .op (some 34) none (.pick (.t 30) (.c (.bool true)) (.t 33))]
def c31r6 : List AStm := [.op (some 35) none (.mv (.t 3)),
    .op (some 36) none (.ixs 1 (.t 35) (.c (.int .i64 5))),
    .op none none (.store 1 (.t 36) (.c (.int .i64 1)))]
def c31r7 : List AStm := [.op (some 37) none (.faddr 41 (.t 1)),
    .op (some 38) none (.load none (.t 37)),
    .op (some 39) none (.bin .neq (.t 38) (.c (.int .i64 (-1)))),
    .op (some 40) none (.mv (.t 39)),
    .op (some 41) (some (40, true)) (.faddr 41 (.t 1)),
    .op (some 42) (some (40, true)) (.load none (.t 41)),
    .call (some 43) (some (40, true)) (.c (.fn (.func 46) [] [])) [(.t 42)],
    .op (some 44) (some (40, true)) (.un .not (.t 43)),
    .op (some 45) none (.pick (.t 40) (.t 44) (.c (.bool false)))]
def c31r8 : List AStm := [.op (some 46) none (.mv (.t 3)),
    .op (some 47) none (.ixs 1 (.t 46) (.c (.int .i64 6))),
    .op none none (.store 1 (.t 47) (.c (.int .i64 14)))]
def c31r9 : List AStm := [.op (some 48) none (.faddr 42 (.t 1)),
    .op (some 49) none (.load none (.t 48)),
    .op (some 50) none (.bin .lss (.t 49) (.c (.int .i64 0))),
    .op (some 51) none (.mv (.t 50)),
    .op (some 52) (some (51, false)) (.faddr 42 (.t 1)),
    .op (some 53) (some (51, false)) (.load none (.t 52)),
    .op (some 54) (some (51, false)) (.bin .geq (.t 53) (.c (.int .i64 16))),
    .op (some 55) none (.pick (.t 51) (.c (.bool true)) (.t 54))]
def c31r10 : List AStm := [.op (some 56) none (.mv (.t 3)),
    .op (some 57) none (.ixs 1 (.t 56) (.c (.int .i64 7))),
    .op none none (.store 1 (.t 57) (.c (.int .i64 11)))]
def c31r11 : List AStm := [.op (some 4) none (.mv (.c (.int .i64 0)))]
def c31r12 : List AStm := [.op (some 58) none (.mv (.t 4)),
    .op (some 59) none (.mv (.t 3)),
    .op (some 60) none (.len false (.t 59)),
    .op (some 61) none (.bin .lss (.t 58) (.t 60))]
def c31r13 : List AStm := [.op (some 64) none (.mv (.t 3)),
    .op (some 65) none (.mv (.t 4)),
    .op (some 66) none (.ixs 1 (.t 64) (.t 65)),
    .op (some 67) none (.load none (.t 66)),
    .op (some 68) none (.bin .neq (.t 67) (.c (.int .i64 0)))]
def c31r14 : List AStm := [.op (some 69) none (.mv (.t 3)),
    .op (some 70) none (.mv (.t 4)),
    .op (some 71) none (.ixs 1 (.t 69) (.t 70)),
    .op (some 72) none (.load none (.t 71)),
    .op (some 2) none (.mv (.t 72))]
def c31r15 : List AStm := [.op (some 62) none (.mv (.t 4)),
    .op (some 63) none (.bin .add (.t 62) (.c (.int .i64 1))),
    .op (some 4) none (.mv (.t 63))]
def c31l16 : AC := .seq (.seq (.reg c31r12) (.cond (.t 61) (.skip) (.exit 0))) (.seq (.block 1 (.seq (.reg c31r13) (.cond (.t 68) (.seq (.reg c31r14) (.ret)) (.skip)))) (.reg c31r15))
def c31r17 : List AStm := [.op (some 2) none (.mv (.c (.int .i64 0)))]
def c31 : CF := ⟨.seq (.reg c31r0) (.seq (.dreg c31r1 c31r2) (.seq (.seq (.reg c31r3) (.cond (.t 24) (.reg c31r4) (.skip))) (.seq (.seq (.reg c31r5) (.cond (.t 34) (.reg c31r6) (.skip))) (.seq (.seq (.reg c31r7) (.cond (.t 45) (.reg c31r8) (.skip))) (.seq (.seq (.reg c31r9) (.cond (.t 55) (.reg c31r10) (.skip))) (.seq (.seq (.reg c31r11) (.block 0 (.loop c31l16))) (.seq (.reg c31r17) (.ret)))))))), [.tmp 2], 73⟩
theorem cf31 : cfun Tryd.prog 31 = some c31 := by kernel_rfl

/-! ### weighbridge/weighbridgeref09.Is, params 1 -/
def c46r0 : List AStm := [.op (some 2) none (.mv (.c (.bool false)))]
def c46r1 : List AStm := [.op (some 3) none (.mv (.t 0)),
    .op (some 4) none (.bin .geq (.t 3) (.c (.int .i64 0))),
    .op (some 5) none (.mv (.t 4)),
    .op (some 6) (some (5, true)) (.mv (.t 0)),
    .op (some 7) (some (5, true)) (.bin .leq (.t 6) (.c (.int .i64 63))),
    .op (some 8) none (.pick (.t 5) (.t 7) (.c (.bool false))),
    .op (some 2) none (.mv (.t 8))]
def c46 : CF := ⟨.seq (.reg c46r0) (.seq (.reg c46r1) (.ret)), [.tmp 2], 9⟩
theorem cf46 : cfun Tryd.prog 46 = some c46 := by kernel_rfl



theorem ris_fc (h : Heap) (n : Int) : FC Tryd.prog 46 [.int .i64 n] h fun d h' => d = .bool (decide (0 ≤ n) && decide (n ≤ 63)) ∧ h' = h := by
  refine FC.goes cf46 ?_; simp only [c46]; simp only [List.length_cons, List.length_nil, Nat.reduceAdd, Nat.reduceSub, List.replicate_succ, List.replicate_zero, List.cons_append, List.nil_append]
  by_cases h0 : 0 ≤ n
  · simp (disch := first | omega | (simp only [List.length_append, List.length_cons, List.length_nil]; omega)) only [c46r0, c46r1, h0, go_sem, fill_c, ↓reduceIte, reduceCtorEq, Nat.reduceAdd, Nat.reduceSub, Nat.reducePow, Nat.reduceMul, Nat.reduceEqDiff, Nat.reduceLT, Nat.reduceLeDiff, Int.reduceToNat, Int.reduceLT, Int.reduceLE, Int.reduceEq, Int.reduceNeg, Int.reduceAdd, Int.reduceSub, Int.reduceMul]
    exact FinOk.all ⟨rfl, rfl⟩
  · simp (disch := first | omega | (simp only [List.length_append, List.length_cons, List.length_nil]; omega)) only [c46r0, c46r1, h0, Bool.false_and, go_sem, fill_c, ↓reduceIte, reduceCtorEq, Nat.reduceAdd, Nat.reduceSub, Nat.reducePow, Nat.reduceMul, Nat.reduceEqDiff, Nat.reduceLT, Nat.reduceLeDiff, Int.reduceToNat, Int.reduceLT, Int.reduceLE, Int.reduceEq, Int.reduceNeg, Int.reduceAdd, Int.reduceSub, Int.reduceMul]
    exact FinOk.all ⟨rfl, rfl⟩
/-- The first that is not nothing. -/
def firstNz : List Int → Int
  | [] => 0
  | x :: l => if x = 0 then firstNz l else x
def chkL (r : Ru) : List Int := [checkF r.sv r.sa r.sn, checkF r.dv r.da r.dn, if r.sv = r.dv then 0 else 4, spanChk r.slo r.shi, spanChk r.dlo r.dhi, if r.proto < -1 ∨ 255 < r.proto then 1 else 0, if r.dscp < -1 ∨ 63 < r.dscp then 14 else 0, if r.cls < 0 ∨ 16 ≤ r.cls then 11 else 0]
theorem chk_first (r : Ru) : ruChk r = firstNz (chkL r) := by
  unfold ruChk chkL
  simp only [firstNz]
  generalize checkF r.sv r.sa r.sn = x1
  generalize checkF r.dv r.da r.dn = x2
  generalize spanChk r.slo r.shi = x3
  generalize spanChk r.dlo r.dhi = x4
  by_cases h1 : x1 = 0
  · by_cases h2 : x2 = 0
    · by_cases h3 : r.sv = r.dv
      · by_cases h4 : x3 = 0
        · by_cases h5 : x4 = 0
          · by_cases h6 : r.proto < -1 ∨ 255 < r.proto
            · simp [h1, h2, h3, h4, h5, h6]
            · by_cases h7 : r.dscp < -1 ∨ 63 < r.dscp
              · simp [h1, h2, h3, h4, h5, h6, h7]
              · by_cases h8 : r.cls < 0 ∨ 16 ≤ r.cls
                · simp [h1, h2, h3, h4, h5, h6, h7, h8]
                · simp [h1, h2, h3, h4, h5, h6, h7, h8]
          · simp [h1, h2, h3, h4, h5]
        · simp [h1, h2, h3, h4]
      · simp [h1, h2, h3]
    · simp [h1, h2]
  · simp [h1]
theorem rcheck17_fc (h : Heap) (r : Ru) (ok : r.Ok) : FC Tryd.prog 31 [.agg (ru r)] h fun d h' => d = .int .i64 (ruChk r) ∧ h' = h := by
  have lr := ru_len ok
  have ec := rcheck_fc
  simp only [prefD_pc] at ec
  rw [chk_first, chkL]
  refine FC.goes cf31 ?_; simp only [c31]; simp only [List.length_cons, List.length_nil, Nat.reduceAdd, Nat.reduceSub, List.replicate_succ, List.replicate_zero, List.cons_append, List.nil_append]
  simp (disch := first | omega | (simp only [List.length_append, List.length_cons, List.length_nil]; omega)) only [c31r0, c31r1, c31r2, c31r3, c31r4, c31r5, c31r6, c31r7, c31r8, c31r9, c31r10, c31r11, c31r12, c31r13, c31r14, c31r15, c31l16, c31r17, lr, ru_one, ru_s, ru_d, ru_d36, ru_d38, ru_l18, ruT, ok, go_sem, fill_c, ↓reduceIte, reduceCtorEq, Nat.reduceAdd, Nat.reduceSub, Nat.reducePow, Nat.reduceMul, Nat.reduceEqDiff, Nat.reduceLT, Nat.reduceLeDiff, Int.reduceToNat, Int.reduceLT, Int.reduceLE, Int.reduceEq, Int.reduceNeg, Int.reduceAdd, Int.reduceSub, Int.reduceMul]
  refine xfc_same (ec _ r.sv r.sn r.sa ok.s) ?_
  simp (disch := first | omega | (simp only [List.length_append, List.length_cons, List.length_nil]; omega)) only [go_sem, fill_c, ↓reduceIte, reduceCtorEq, Nat.reduceAdd, Nat.reduceSub, Nat.reducePow, Nat.reduceMul, Nat.reduceEqDiff, Nat.reduceLT, Nat.reduceLeDiff, Int.reduceToNat, Int.reduceLT, Int.reduceLE, Int.reduceEq, Int.reduceNeg, Int.reduceAdd, Int.reduceSub, Int.reduceMul]
  refine xfc_same (ec _ r.dv r.dn r.da ok.d) ?_
  simp (disch := first | omega | (simp only [List.length_append, List.length_cons, List.length_nil]; omega)) only [go_sem, fill_c, ↓reduceIte, reduceCtorEq, Nat.reduceAdd, Nat.reduceSub, Nat.reducePow, Nat.reduceMul, Nat.reduceEqDiff, Nat.reduceLT, Nat.reduceLeDiff, Int.reduceToNat, Int.reduceLT, Int.reduceLE, Int.reduceEq, Int.reduceNeg, Int.reduceAdd, Int.reduceSub, Int.reduceMul]
  refine xfc_same (rscheck_fc _ _ _) ?_
  simp (disch := first | omega | (simp only [List.length_append, List.length_cons, List.length_nil]; omega)) only [go_sem, fill_c, ↓reduceIte, reduceCtorEq, Nat.reduceAdd, Nat.reduceSub, Nat.reducePow, Nat.reduceMul, Nat.reduceEqDiff, Nat.reduceLT, Nat.reduceLeDiff, Int.reduceToNat, Int.reduceLT, Int.reduceLE, Int.reduceEq, Int.reduceNeg, Int.reduceAdd, Int.reduceSub, Int.reduceMul]
  refine gfc_same (rscheck_fc _ _ _) ?_
  simp (disch := first | omega | (simp only [List.length_append, List.length_cons, List.length_nil]; omega)) only [ru_0, ru_18, ok, List.replicate_succ, List.replicate_zero, go_sem, fill_c, ↓reduceIte, reduceCtorEq, Nat.reduceAdd, Nat.reduceSub, Nat.reducePow, Nat.reduceMul, Nat.reduceEqDiff, Nat.reduceLT, Nat.reduceLeDiff, Int.reduceToNat, Int.reduceLT, Int.reduceLE, Int.reduceEq, Int.reduceNeg, Int.reduceAdd, Int.reduceSub, Int.reduceMul]
  generalize checkF r.sv r.sa r.sn = x1
  generalize checkF r.dv r.da r.dn = x2
  generalize spanChk r.slo r.shi = x3
  generalize spanChk r.dlo r.dhi = x4
  generalize hv : (if r.sv = r.dv then (0 : Int) else 4) = v
  generalize hp : (if r.proto < -1 ∨ 255 < r.proto then (1 : Int) else 0) = p
  generalize hd : (if r.dscp < -1 ∨ 63 < r.dscp then (14 : Int) else 0) = d
  generalize hc : (if r.cls < 0 ∨ 16 ≤ r.cls then (11 : Int) else 0) = c
  refine gc_cut (fun st => ∃ (j : Nat → D), st = ⟨(j 0 :: .ref h.length 0 :: j 2 :: .own (h.length + 1) 8 :: j 4 :: j 5 :: j 6 :: j 7 :: j 8 :: j 9 :: j 10 :: j 11 :: j 12 :: j 13 :: j 14 :: j 15 :: j 16 :: j 17 :: j 18 :: j 19 :: j 20 :: j 21 :: j 22 :: j 23 :: j 24 :: j 25 :: j 26 :: j 27 :: j 28 :: j 29 :: j 30 :: j 31 :: j 32 :: j 33 :: j 34 :: j 35 :: j 36 :: j 37 :: j 38 :: j 39 :: j 40 :: j 41 :: j 42 :: j 43 :: j 44 :: j 45 :: j 46 :: j 47 :: j 48 :: j 49 :: j 50 :: j 51 :: j 52 :: j 53 :: j 54 :: j 55 :: j 56 :: j 57 :: j 58 :: j 59 :: j 60 :: j 61 :: j 62 :: j 63 :: j 64 :: j 65 :: j 66 :: j 67 :: j 68 :: j 69 :: j 70 :: j 71 :: j 72 :: []), h ++ [.box (ru r), .grow 1 [.int .i64 x1, .int .i64 x2, .int .i64 v, .int .i64 x3, .int .i64 x4, .int .i64 0, .int .i64 0, .int .i64 0] 8]⟩) ?_ ?_
  · by_cases h1 : r.sv = r.dv
    · have e0 : decide (r.sv = r.dv) = true := decide_eq_true h1
      rw [if_pos h1] at hv
      subst hv
      simp (disch := first | omega | (simp only [List.length_append, List.length_cons, List.length_nil]; omega)) only [e0, go_sem, fill_c, ↓reduceIte, reduceCtorEq, Nat.reduceAdd, Nat.reduceSub, Nat.reducePow, Nat.reduceMul, Nat.reduceEqDiff, Nat.reduceLT, Nat.reduceLeDiff, Int.reduceToNat, Int.reduceLT, Int.reduceLE, Int.reduceEq, Int.reduceNeg, Int.reduceAdd, Int.reduceSub, Int.reduceMul]
      exact junk rfl
    · have e0 : decide (r.sv = r.dv) = false := decide_eq_false h1
      rw [if_neg h1] at hv
      subst hv
      rw [e0]
      simp (disch := first | omega | (simp only [List.length_append, List.length_cons, List.length_nil]; omega)) only [go_sem, fill_c, ↓reduceIte, reduceCtorEq, Nat.reduceAdd, Nat.reduceSub, Nat.reducePow, Nat.reduceMul, Nat.reduceEqDiff, Nat.reduceLT, Nat.reduceLeDiff, Int.reduceToNat, Int.reduceLT, Int.reduceLE, Int.reduceEq, Int.reduceNeg, Int.reduceAdd, Int.reduceSub, Int.reduceMul]
      exact junk rfl
  rintro st ⟨j, rfl⟩
  refine go_cut (fun st => ∃ (j : Nat → D), st = ⟨(j 0 :: .ref h.length 0 :: j 2 :: .own (h.length + 1) 8 :: j 4 :: j 5 :: j 6 :: j 7 :: j 8 :: j 9 :: j 10 :: j 11 :: j 12 :: j 13 :: j 14 :: j 15 :: j 16 :: j 17 :: j 18 :: j 19 :: j 20 :: j 21 :: j 22 :: j 23 :: j 24 :: j 25 :: j 26 :: j 27 :: j 28 :: j 29 :: j 30 :: j 31 :: j 32 :: j 33 :: j 34 :: j 35 :: j 36 :: j 37 :: j 38 :: j 39 :: j 40 :: j 41 :: j 42 :: j 43 :: j 44 :: j 45 :: j 46 :: j 47 :: j 48 :: j 49 :: j 50 :: j 51 :: j 52 :: j 53 :: j 54 :: j 55 :: j 56 :: j 57 :: j 58 :: j 59 :: j 60 :: j 61 :: j 62 :: j 63 :: j 64 :: j 65 :: j 66 :: j 67 :: j 68 :: j 69 :: j 70 :: j 71 :: j 72 :: []), h ++ [.box (ru r), .grow 1 [.int .i64 x1, .int .i64 x2, .int .i64 v, .int .i64 x3, .int .i64 x4, .int .i64 p, .int .i64 0, .int .i64 0] 8]⟩) ?_ ?_
  · by_cases h1 : r.proto < -1
    · rw [if_pos (.inl h1)] at hp
      subst hp
      simp (disch := first | omega | (simp only [List.length_append, List.length_cons, List.length_nil]; omega)) only [h1, ru_d40, ruT, ok, go_sem, fill_c, ↓reduceIte, reduceCtorEq, Nat.reduceAdd, Nat.reduceSub, Nat.reducePow, Nat.reduceMul, Nat.reduceEqDiff, Nat.reduceLT, Nat.reduceLeDiff, Int.reduceToNat, Int.reduceLT, Int.reduceLE, Int.reduceEq, Int.reduceNeg, Int.reduceAdd, Int.reduceSub, Int.reduceMul]
      exact junk rfl
    · by_cases h2 : 255 < r.proto
      · rw [if_pos (.inr h2)] at hp
        subst hp
        simp (disch := first | omega | (simp only [List.length_append, List.length_cons, List.length_nil]; omega)) only [h1, h2, ru_d40, ruT, ok, go_sem, fill_c, ↓reduceIte, reduceCtorEq, Nat.reduceAdd, Nat.reduceSub, Nat.reducePow, Nat.reduceMul, Nat.reduceEqDiff, Nat.reduceLT, Nat.reduceLeDiff, Int.reduceToNat, Int.reduceLT, Int.reduceLE, Int.reduceEq, Int.reduceNeg, Int.reduceAdd, Int.reduceSub, Int.reduceMul]
        exact junk rfl
      · rw [if_neg (by omega)] at hp
        subst hp
        simp (disch := first | omega | (simp only [List.length_append, List.length_cons, List.length_nil]; omega)) only [h1, h2, ru_d40, ruT, ok, go_sem, fill_c, ↓reduceIte, reduceCtorEq, Nat.reduceAdd, Nat.reduceSub, Nat.reducePow, Nat.reduceMul, Nat.reduceEqDiff, Nat.reduceLT, Nat.reduceLeDiff, Int.reduceToNat, Int.reduceLT, Int.reduceLE, Int.reduceEq, Int.reduceNeg, Int.reduceAdd, Int.reduceSub, Int.reduceMul]
        exact junk rfl
  rintro st ⟨j, rfl⟩
  refine go_cut (fun st => ∃ (j : Nat → D), st = ⟨(j 0 :: .ref h.length 0 :: j 2 :: .own (h.length + 1) 8 :: j 4 :: j 5 :: j 6 :: j 7 :: j 8 :: j 9 :: j 10 :: j 11 :: j 12 :: j 13 :: j 14 :: j 15 :: j 16 :: j 17 :: j 18 :: j 19 :: j 20 :: j 21 :: j 22 :: j 23 :: j 24 :: j 25 :: j 26 :: j 27 :: j 28 :: j 29 :: j 30 :: j 31 :: j 32 :: j 33 :: j 34 :: j 35 :: j 36 :: j 37 :: j 38 :: j 39 :: j 40 :: j 41 :: j 42 :: j 43 :: j 44 :: j 45 :: j 46 :: j 47 :: j 48 :: j 49 :: j 50 :: j 51 :: j 52 :: j 53 :: j 54 :: j 55 :: j 56 :: j 57 :: j 58 :: j 59 :: j 60 :: j 61 :: j 62 :: j 63 :: j 64 :: j 65 :: j 66 :: j 67 :: j 68 :: j 69 :: j 70 :: j 71 :: j 72 :: []), h ++ [.box (ru r), .grow 1 [.int .i64 x1, .int .i64 x2, .int .i64 v, .int .i64 x3, .int .i64 x4, .int .i64 p, .int .i64 d, .int .i64 0] 8]⟩) ?_ ?_
  · by_cases h1 : r.dscp = -1
    · have e0 : decide (r.dscp = -1) = true := decide_eq_true h1
      rw [if_neg (by omega)] at hd
      subst hd
      simp (disch := first | omega | (simp only [List.length_append, List.length_cons, List.length_nil]; omega)) only [e0, ru_d41, ruT, ok, Bool.false_and, go_sem, fill_c, ↓reduceIte, reduceCtorEq, Nat.reduceAdd, Nat.reduceSub, Nat.reducePow, Nat.reduceMul, Nat.reduceEqDiff, Nat.reduceLT, Nat.reduceLeDiff, Int.reduceToNat, Int.reduceLT, Int.reduceLE, Int.reduceEq, Int.reduceNeg, Int.reduceAdd, Int.reduceSub, Int.reduceMul]
      exact junk rfl
    · simp (disch := first | omega | (simp only [List.length_append, List.length_cons, List.length_nil]; omega)) only [h1, ru_d41, ruT, ok, go_sem, fill_c, ↓reduceIte, reduceCtorEq, Nat.reduceAdd, Nat.reduceSub, Nat.reducePow, Nat.reduceMul, Nat.reduceEqDiff, Nat.reduceLT, Nat.reduceLeDiff, Int.reduceToNat, Int.reduceLT, Int.reduceLE, Int.reduceEq, Int.reduceNeg, Int.reduceAdd, Int.reduceSub, Int.reduceMul]
      refine gfc_same (ris_fc _ r.dscp) ?_
      by_cases h2 : 0 ≤ r.dscp ∧ r.dscp ≤ 63
      · rw [if_neg (by omega)] at hd
        subst hd
        simp (disch := first | omega | (simp only [List.length_append, List.length_cons, List.length_nil]; omega)) only [h2.1, h2.2, go_sem, fill_c, ↓reduceIte, reduceCtorEq, Nat.reduceAdd, Nat.reduceSub, Nat.reducePow, Nat.reduceMul, Nat.reduceEqDiff, Nat.reduceLT, Nat.reduceLeDiff, Int.reduceToNat, Int.reduceLT, Int.reduceLE, Int.reduceEq, Int.reduceNeg, Int.reduceAdd, Int.reduceSub, Int.reduceMul]
        exact junk rfl
      · have e2 : (decide (0 ≤ r.dscp) && decide (r.dscp ≤ 63)) = false := by rw [← Bool.decide_and]; exact decide_eq_false h2
        rw [if_pos (by omega)] at hd
        subst hd
        rw [e2]
        simp (disch := first | omega | (simp only [List.length_append, List.length_cons, List.length_nil]; omega)) only [go_sem, fill_c, ↓reduceIte, reduceCtorEq, Nat.reduceAdd, Nat.reduceSub, Nat.reducePow, Nat.reduceMul, Nat.reduceEqDiff, Nat.reduceLT, Nat.reduceLeDiff, Int.reduceToNat, Int.reduceLT, Int.reduceLE, Int.reduceEq, Int.reduceNeg, Int.reduceAdd, Int.reduceSub, Int.reduceMul]
        exact junk rfl
  rintro st ⟨j, rfl⟩
  refine go_cut (fun st => ∃ (j : Nat → D), st = ⟨(j 0 :: .ref h.length 0 :: j 2 :: .own (h.length + 1) 8 :: j 4 :: j 5 :: j 6 :: j 7 :: j 8 :: j 9 :: j 10 :: j 11 :: j 12 :: j 13 :: j 14 :: j 15 :: j 16 :: j 17 :: j 18 :: j 19 :: j 20 :: j 21 :: j 22 :: j 23 :: j 24 :: j 25 :: j 26 :: j 27 :: j 28 :: j 29 :: j 30 :: j 31 :: j 32 :: j 33 :: j 34 :: j 35 :: j 36 :: j 37 :: j 38 :: j 39 :: j 40 :: j 41 :: j 42 :: j 43 :: j 44 :: j 45 :: j 46 :: j 47 :: j 48 :: j 49 :: j 50 :: j 51 :: j 52 :: j 53 :: j 54 :: j 55 :: j 56 :: j 57 :: j 58 :: j 59 :: j 60 :: j 61 :: j 62 :: j 63 :: j 64 :: j 65 :: j 66 :: j 67 :: j 68 :: j 69 :: j 70 :: j 71 :: j 72 :: []), h ++ [.box (ru r), .grow 1 [.int .i64 x1, .int .i64 x2, .int .i64 v, .int .i64 x3, .int .i64 x4, .int .i64 p, .int .i64 d, .int .i64 c] 8]⟩) ?_ ?_
  · by_cases h1 : r.cls < 0
    · rw [if_pos (.inl h1)] at hc
      subst hc
      simp (disch := first | omega | (simp only [List.length_append, List.length_cons, List.length_nil]; omega)) only [h1, ru_d42, ruT, ok, go_sem, fill_c, ↓reduceIte, reduceCtorEq, Nat.reduceAdd, Nat.reduceSub, Nat.reducePow, Nat.reduceMul, Nat.reduceEqDiff, Nat.reduceLT, Nat.reduceLeDiff, Int.reduceToNat, Int.reduceLT, Int.reduceLE, Int.reduceEq, Int.reduceNeg, Int.reduceAdd, Int.reduceSub, Int.reduceMul]
      exact junk rfl
    · by_cases h2 : 16 ≤ r.cls
      · rw [if_pos (.inr h2)] at hc
        subst hc
        simp (disch := first | omega | (simp only [List.length_append, List.length_cons, List.length_nil]; omega)) only [h1, h2, ru_d42, ruT, ok, go_sem, fill_c, ↓reduceIte, reduceCtorEq, Nat.reduceAdd, Nat.reduceSub, Nat.reducePow, Nat.reduceMul, Nat.reduceEqDiff, Nat.reduceLT, Nat.reduceLeDiff, Int.reduceToNat, Int.reduceLT, Int.reduceLE, Int.reduceEq, Int.reduceNeg, Int.reduceAdd, Int.reduceSub, Int.reduceMul]
        exact junk rfl
      · rw [if_neg (by omega)] at hc
        subst hc
        simp (disch := first | omega | (simp only [List.length_append, List.length_cons, List.length_nil]; omega)) only [h1, h2, ru_d42, ruT, ok, go_sem, fill_c, ↓reduceIte, reduceCtorEq, Nat.reduceAdd, Nat.reduceSub, Nat.reducePow, Nat.reduceMul, Nat.reduceEqDiff, Nat.reduceLT, Nat.reduceLeDiff, Int.reduceToNat, Int.reduceLT, Int.reduceLE, Int.reduceEq, Int.reduceNeg, Int.reduceAdd, Int.reduceSub, Int.reduceMul]
        exact junk rfl
  rintro st ⟨j, rfl⟩
  simp (disch := first | omega | (simp only [List.length_append, List.length_cons, List.length_nil]; omega)) only [c31r0, c31r1, c31r2, c31r3, c31r4, c31r5, c31r6, c31r7, c31r8, c31r9, c31r10, c31r11, c31r12, c31r13, c31r14, c31r15, c31l16, c31r17, go_sem, fill_c, ↓reduceIte, reduceCtorEq, Nat.reduceAdd, Nat.reduceSub, Nat.reducePow, Nat.reduceMul, Nat.reduceEqDiff, Nat.reduceLT, Nat.reduceLeDiff, Int.reduceToNat, Int.reduceLT, Int.reduceLE, Int.reduceEq, Int.reduceNeg, Int.reduceAdd, Int.reduceSub, Int.reduceMul]
  generalize hH : h ++ [Blk.box (ru r), .grow 1 [.int .i64 x1, .int .i64 x2, .int .i64 v, .int .i64 x3, .int .i64 x4, .int .i64 p, .int .i64 d, .int .i64 c] 8] = H
  have hx : SlOf H 1 (.own (h.length + 1) 8) [.int .i64 x1, .int .i64 x2, .int .i64 v, .int .i64 x3, .int .i64 x4, .int .i64 p, .int .i64 d, .int .i64 c] 8 := by
    rw [← hH]; exact own_of (by simp (disch := first | omega | (simp only [List.length_append, List.length_cons, List.length_nil]; omega)) only [go_sem, fill_c, ↓reduceIte, reduceCtorEq, Nat.reduceAdd, Nat.reduceSub, Nat.reducePow, Nat.reduceMul, Nat.reduceEqDiff, Nat.reduceLT, Nat.reduceLeDiff, Int.reduceToNat, Int.reduceLT, Int.reduceLE, Int.reduceEq, Int.reduceNeg, Int.reduceAdd, Int.reduceSub, Int.reduceMul]) rfl
  refine loop_to 8 (fun k st => firstNz [x1, x2, v, x3, x4, p, d, c] = firstNz ([x1, x2, v, x3, x4, p, d, c].drop k) ∧ ∃ (j : Nat → D), st = ⟨(j 0 :: j 1 :: j 2 :: .own (h.length + 1) 8 :: .int .i64 (k : Int) :: j 5 :: j 6 :: j 7 :: j 8 :: j 9 :: j 10 :: j 11 :: j 12 :: j 13 :: j 14 :: j 15 :: j 16 :: j 17 :: j 18 :: j 19 :: j 20 :: j 21 :: j 22 :: j 23 :: j 24 :: j 25 :: j 26 :: j 27 :: j 28 :: j 29 :: j 30 :: j 31 :: j 32 :: j 33 :: j 34 :: j 35 :: j 36 :: j 37 :: j 38 :: j 39 :: j 40 :: j 41 :: j 42 :: j 43 :: j 44 :: j 45 :: j 46 :: j 47 :: j 48 :: j 49 :: j 50 :: j 51 :: j 52 :: j 53 :: j 54 :: j 55 :: j 56 :: j 57 :: j 58 :: j 59 :: j 60 :: j 61 :: j 62 :: j 63 :: j 64 :: j 65 :: j 66 :: j 67 :: j 68 :: j 69 :: j 70 :: j 71 :: j 72 :: []), H⟩) ⟨rfl, junk rfl⟩ ?_
  rintro k st hk ⟨hall, j, rfl⟩
  rw [hall]
  obtain rfl | hk : k = 8 ∨ k < 8 := by omega
  · simp (disch := first | omega | (simp only [List.length_append, List.length_cons, List.length_nil]; omega)) only [hx.lend, hx.sort, go_sem, fill_c, ↓reduceIte, reduceCtorEq, Nat.reduceAdd, Nat.reduceSub, Nat.reducePow, Nat.reduceMul, Nat.reduceEqDiff, Nat.reduceLT, Nat.reduceLeDiff, Int.reduceToNat, Int.reduceLT, Int.reduceLE, Int.reduceEq, Int.reduceNeg, Int.reduceAdd, Int.reduceSub, Int.reduceMul]
    rw [← hH]
    exact FinOk.drop (.inl rfl) (by simp [underL, underD]) ⟨rfl, rfl⟩
  · have hk' : (k : Int) < 8 := by omega
    obtain ⟨b, hb, hd⟩ : ∃ b : Int, [D.int .i64 x1, .int .i64 x2, .int .i64 v, .int .i64 x3, .int .i64 x4, .int .i64 p, .int .i64 d, .int .i64 c][k]? = some (.int .i64 b) ∧ [x1, x2, v, x3, x4, p, d, c].drop k = b :: [x1, x2, v, x3, x4, p, d, c].drop (k + 1) := by
      obtain rfl | rfl | rfl | rfl | rfl | rfl | rfl | rfl : k = 0 ∨ k = 1 ∨ k = 2 ∨ k = 3 ∨ k = 4 ∨ k = 5 ∨ k = 6 ∨ k = 7 := by omega
      all_goals exact ⟨_, rfl, rfl⟩
    obtain ⟨q, cs, e1, e2, e3⟩ := hx.elem (k := .i64) (i := (k : Int)) (by omega) (by omega)
    have e4 := e3 0 (by omega)
    rw [show ((k : Int).toNat * 1 + 0) = k by omega, hb] at e4
    have e5 : IntKind.i64.wrap ((k : Int) + 1) = ((k + 1 : Nat) : Int) := by rw [w_i64 (by omega) (by omega)]; omega
    rw [hd] at hall ⊢
    by_cases h0 : b = 0
    · have e0 : decide (b = 0) = true := decide_eq_true h0
      simp (disch := first | omega | (simp only [List.length_append, List.length_cons, List.length_nil]; omega)) only [c31r0, c31r1, c31r2, c31r3, c31r4, c31r5, c31r6, c31r7, c31r8, c31r9, c31r10, c31r11, c31r12, c31r13, c31r14, c31r15, c31l16, c31r17, hx.lend, hx.sort, hk', e1, e2, e4, e5, e0, go_sem, fill_c, ↓reduceIte, reduceCtorEq, Nat.reduceAdd, Nat.reduceSub, Nat.reducePow, Nat.reduceMul, Nat.reduceEqDiff, Nat.reduceLT, Nat.reduceLeDiff, Int.reduceToNat, Int.reduceLT, Int.reduceLE, Int.reduceEq, Int.reduceNeg, Int.reduceAdd, Int.reduceSub, Int.reduceMul]
      refine ⟨hk, ?_, junk rfl⟩
      rw [firstNz, if_pos h0]
    · have e6 : firstNz (b :: [x1, x2, v, x3, x4, p, d, c].drop (k + 1)) = b := by rw [firstNz, if_neg h0]
      rw [e6]
      simp (disch := first | omega | (simp only [List.length_append, List.length_cons, List.length_nil]; omega)) only [c31r0, c31r1, c31r2, c31r3, c31r4, c31r5, c31r6, c31r7, c31r8, c31r9, c31r10, c31r11, c31r12, c31r13, c31r14, c31r15, c31l16, c31r17, hx.lend, hx.sort, hk', e1, e2, e4, e5, h0, go_sem, fill_c, ↓reduceIte, reduceCtorEq, Nat.reduceAdd, Nat.reduceSub, Nat.reducePow, Nat.reduceMul, Nat.reduceEqDiff, Nat.reduceLT, Nat.reduceLeDiff, Int.reduceToNat, Int.reduceLT, Int.reduceLE, Int.reduceEq, Int.reduceNeg, Int.reduceAdd, Int.reduceSub, Int.reduceMul]
      rw [← hH]
      exact FinOk.drop (.inl rfl) (by simp [underL, underD]) ⟨rfl, rfl⟩
end Go.Proofs
