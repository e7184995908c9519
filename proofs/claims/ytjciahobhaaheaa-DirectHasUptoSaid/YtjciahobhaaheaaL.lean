/-
  Own work. The law BitrowBack.
-/
import Derived.Test.YtjciahobhaaheaaK
namespace Go.Proofs
open Go Go.Ytjciahobhaaheaa
set_option linter.unusedVariables false
set_option linter.unusedSimpArgs false
set_option maxRecDepth 10000

/-! ### weighbridge/weighbridgelaw18.BitrowBack, params 2 -/
def c7r0 : List AStm := [.op (some 4) none (.mv (.c (.bool false)))]
def c7r1 : List AStm := [.op (some 12) none (.mv (.t 0)),
    .op (some 13) none (.len false (.t 12)),
    .op (some 14) none (.bin .gtr (.t 13) (.c (.int .i64 40))),
    .op (some 15) none (.mv (.t 14)),
    .op (some 16) (some (15, false)) (.mv (.t 1)),
    .op (some 17) (some (15, false)) (.len false (.t 16)),
    .op (some 18) (some (15, false)) (.bin .gtr (.t 17) (.c (.int .i64 40))),
    .op (some 19) none (.pick (.t 15) (.c (.bool true)) (.t 18))]
def c7r2 : List AStm := [.call (some 20) none (.c (.fn (.func 19) [] [])) [],
    .op (some 4) none (.mv (.t 20))]
def c7r3 : List AStm := [.op (some 21) none (.mv (.t 0)),
    .op (some 22) none (.len false (.t 21)),
    .op (some 23) none (.mv (.t 1)),
    .op (some 24) none (.len false (.t 23)),
    .op (some 25) none (.mnx false (.t 22) (.t 24)),
    .op (some 5) none (.mv (.t 25))]
def c7r4 : List AStm := [.op (some 26) none (.mv (.t 0)),
    .op (some 27) none (.mv (.t 5)),
    .op (some 28) none (.slc 1 (.t 26) none (some (.t 27))),
    .op (some 29) none (.mv (.t 1)),
    .op (some 30) none (.mv (.t 5)),
    .op (some 31) none (.slc 1 (.t 29) none (some (.t 30))),
    .op (some 0) none (.mv (.t 28)),
    .op (some 1) none (.mv (.t 31))]
def c7r5 : List AStm := []
def c7r6 : List AStm := [.op (some 32) none (.mv (.t 5)),
    .op (some 33) none (.bin .mul (.c (.int .i64 64)) (.t 32)),
    .call (some 34) none (.c (.fn (.func 21) [] [])) [(.t 33)],
    .op (some 6) none (.mv (.t 34))]
def c7r7 : List AStm := [.op (some 35) none (.mv (.t 0)),
    .call (some 36) none (.c (.fn (.func 30) [] [])) [(.t 35)],
    .op (some 7) none (.mv (.t 36))]
def c7r8 : List AStm := [.op (some 8) none (.mv (.c (.int .i64 0)))]
def c7r9 : List AStm := [.op (some 37) none (.mv (.t 8)),
    .op (some 38) none (.mv (.t 7)),
    .op (some 39) none (.len false (.t 38)),
    .op (some 40) none (.bin .lss (.t 37) (.t 39))]
def c7r10 : List AStm := [.op (some 43) none (.mv (.t 8)),
    .op (some 44) none (.bin .gtr (.t 43) (.c (.int .i64 0))),
    .op (some 45) none (.mv (.t 44)),
    .op (some 46) (some (45, true)) (.mv (.t 7)),
    .op (some 47) (some (45, true)) (.mv (.t 8)),
    .op (some 48) (some (45, true)) (.ixs 1 (.t 46) (.t 47)),
    .op (some 49) (some (45, true)) (.load none (.t 48)),
    .op (some 50) (some (45, true)) (.mv (.t 7)),
    .op (some 51) (some (45, true)) (.mv (.t 8)),
    .op (some 52) (some (45, true)) (.bin .sub (.t 51) (.c (.int .i64 1))),
    .op (some 53) (some (45, true)) (.ixs 1 (.t 50) (.t 52)),
    .op (some 54) (some (45, true)) (.load none (.t 53)),
    .op (some 55) (some (45, true)) (.bin .leq (.t 49) (.t 54)),
    .op (some 56) none (.pick (.t 45) (.t 55) (.c (.bool false)))]
def c7r11 : List AStm := []
def c7r12 : List AStm := [.op (some 4) none (.mv (.c (.bool false)))]
def c7r13 : List AStm := [.op (some 57) none (.mv (.t 6)),
    .op (some 58) none (.mv (.t 7)),
    .op (some 59) none (.mv (.t 8)),
    .op (some 60) none (.ixs 1 (.t 58) (.t 59)),
    .op (some 61) none (.load none (.t 60)),
    .call (some 62) none (.c (.fn (.func 20) [] [])) [(.t 57), (.t 61)],
    .op (some 6) none (.mv (.t 62))]
def c7r14 : List AStm := [.op (some 41) none (.mv (.t 8)),
    .op (some 42) none (.bin .add (.t 41) (.c (.int .i64 1))),
    .op (some 8) none (.mv (.t 42))]
def c7l15 : AC := .seq (.seq (.reg c7r9) (.cond (.t 40) (.skip) (.exit 0))) (.seq (.block 1 (.seq (.seq (.dreg c7r10 c7r11) (.cond (.t 56) (.seq (.reg c7r12) (.ret)) (.skip))) (.reg c7r13))) (.reg c7r14))
def c7r16 : List AStm := [.op (some 63) none (.mv (.t 6)),
    .op (some 64) none (.mv (.t 0)),
    .call (some 65) none (.c (.fn (.func 12) [] [])) [(.t 63), (.t 64)],
    .op (some 66) none (.un .not (.t 65))]
def c7r17 : List AStm := [.op (some 4) none (.mv (.c (.bool false)))]
def c7r18 : List AStm := [.op (some 67) none (.mv (.t 0)),
    .op (some 68) none (.mv (.t 1)),
    .op (some 69) none (.bslice 1 [.nils, .nils] 2 [(0, 1, (.t 67)), (1, 1, (.t 68))]),
    .call (some 70) none (.c (.fn (.func 33) [] [])) [(.t 69)],
    .op (some 71) none (.mv (.t 0)),
    .op (some 72) none (.mv (.t 1)),
    .op (some 73) none (.bslice 1 [.nils, .nils] 2 [(0, 1, (.t 71)), (1, 1, (.t 72))]),
    .call (some 74) none (.c (.fn (.func 35) [] [])) [(.t 73)],
    .op (some 9) none (.mv (.t 70)),
    .op (some 10) none (.mv (.t 74))]
def c7r19 : List AStm := [.op (some 11) none (.mv (.c (.int .i64 0)))]
def c7r20 : List AStm := [.op (some 75) none (.mv (.t 11)),
    .op (some 76) none (.mv (.t 5)),
    .op (some 77) none (.bin .mul (.c (.int .i64 64)) (.t 76)),
    .op (some 78) none (.bin .lss (.t 75) (.t 77))]
def c7r21 : List AStm := [.op (some 81) none (.mv (.t 9)),
    .op (some 82) none (.mv (.t 11)),
    .call (some 83) none (.c (.fn (.func 18) [] [])) [(.t 81), (.t 82)],
    .op (some 84) none (.mv (.t 0)),
    .op (some 85) none (.mv (.t 11)),
    .call (some 86) none (.c (.fn (.func 18) [] [])) [(.t 84), (.t 85)],
    .op (some 87) none (.mv (.t 86)),
    .op (some 88) (some (87, true)) (.mv (.t 1)),
    .op (some 89) (some (87, true)) (.mv (.t 11)),
    .call (some 90) (some (87, true)) (.c (.fn (.func 18) [] [])) [(.t 88), (.t 89)],
    .op (some 91) none (.pick (.t 87) (.t 90) (.c (.bool false))),
    .op (some 92) none (.eqb true (.t 83) (.t 91)),
    .op (some 93) none (.mv (.t 92)),
    .op (some 94) (some (93, false)) (.mv (.t 10)),
    .op (some 95) (some (93, false)) (.mv (.t 11)),
    .call (some 96) (some (93, false)) (.c (.fn (.func 18) [] [])) [(.t 94), (.t 95)],
    .op (some 97) (some (93, false)) (.mv (.t 0)),
    .op (some 98) (some (93, false)) (.mv (.t 11)),
    .call (some 99) (some (93, false)) (.c (.fn (.func 18) [] [])) [(.t 97), (.t 98)],
    .op (some 100) (some (93, false)) (.mv (.t 99)),
    .op (some 101) (some (100, false)) (.mv (.t 1)),
    .op (some 102) (some (100, false)) (.mv (.t 11)),
    .call (some 103) (some (100, false)) (.c (.fn (.func 18) [] [])) [(.t 101), (.t 102)],
    .op (some 104) (some (93, false)) (.pick (.t 100) (.c (.bool true)) (.t 103)),
    .op (some 105) (some (93, false)) (.eqb true (.t 96) (.t 104)),
    .op (some 106) none (.pick (.t 93) (.c (.bool true)) (.t 105))]
def c7r22 : List AStm := [.op (some 4) none (.mv (.c (.bool false)))]
def c7r23 : List AStm := [.op (some 79) none (.mv (.t 11)),
    .op (some 80) none (.bin .add (.t 79) (.c (.int .i64 1))),
    .op (some 11) none (.mv (.t 80))]
def c7l24 : AC := .seq (.seq (.reg c7r20) (.cond (.t 78) (.skip) (.exit 2))) (.seq (.block 3 (.seq (.reg c7r21) (.cond (.t 106) (.seq (.reg c7r22) (.ret)) (.skip)))) (.reg c7r23))
def c7r25 : List AStm := [.call (some 107) none (.c (.fn (.func 19) [] [])) [],
    .op (some 108) none (.mv (.t 107)),
    .op (some 109) (some (108, true)) (.mv (.t 9)),
    .call (some 110) (some (108, true)) (.c (.fn (.func 32) [] [])) [(.t 109)],
    .op (some 111) (some (108, true)) (.mv (.t 10)),
    .call (some 112) (some (108, true)) (.c (.fn (.func 32) [] [])) [(.t 111)],
    .op (some 113) (some (108, true)) (.bin .add (.t 110) (.t 112)),
    .op (some 114) (some (108, true)) (.mv (.t 0)),
    .call (some 115) (some (108, true)) (.c (.fn (.func 32) [] [])) [(.t 114)],
    .op (some 116) (some (108, true)) (.mv (.t 1)),
    .call (some 117) (some (108, true)) (.c (.fn (.func 32) [] [])) [(.t 116)],
    .op (some 118) (some (108, true)) (.bin .add (.t 115) (.t 117)),
    .op (some 119) (some (108, true)) (.bin .eql (.t 113) (.t 118)),
    .op (some 120) none (.pick (.t 108) (.t 119) (.c (.bool false))),
    .op (some 4) none (.mv (.t 120))]
def c7 : CF := ⟨.seq (.reg c7r0) (.seq (.seq (.reg c7r1) (.cond (.t 19) (.seq (.reg c7r2) (.ret)) (.skip))) (.seq (.reg c7r3) (.seq (.dreg c7r4 c7r5) (.seq (.reg c7r6) (.seq (.reg c7r7) (.seq (.seq (.reg c7r8) (.block 0 (.loop c7l15))) (.seq (.seq (.reg c7r16) (.cond (.t 66) (.seq (.reg c7r17) (.ret)) (.skip))) (.seq (.reg c7r18) (.seq (.seq (.reg c7r19) (.block 2 (.loop c7l24))) (.seq (.reg c7r25) (.ret))))))))))), [.tmp 4], 121⟩
theorem cf7 : cfun Try.prog 7 = some c7 := by kernel_rfl



theorem RowOf.cut {h : Heap} {d : D} {ws : List Nat} (s : RowOf h d ws) {m : Nat} (hm : m ≤ ws.length) :
    ∃ d', subSl h 1 d none (some (.int .i64 (m : Int))) = some d' ∧ RowOf h d' (ws.take m) := by
  obtain ⟨xc, g1, g2⟩ := SlOf.sub s (lo := none) (hi := some (.int .i64 (m : Int))) (a := 0) (b := m) (by simp only [bnd]; rw [if_pos ⟨by omega, by omega⟩]; rfl) rfl (by omega) hm
  refine ⟨xc, g1, ?_⟩
  unfold RowOf
  rw [List.length_take, Nat.min_eq_left hm, ← u64s_takes]
  simpa using g2

/-- The bits that are set, one after another one. -/
theorem onesL_mem {ws : List Nat} {x : Nat} : x ∈ onesL ws ↔ x < 64 * ws.length ∧ hasB ws x = true := by
  simp [onesL, onesTo, List.mem_filter, List.mem_range]
theorem onesL_rise (ws : List Nat) : (onesL ws).Pairwise (· < ·) := List.Pairwise.filter _ List.pairwise_lt_range
def putL (n : Nat) (l : List Nat) : List Nat := l.foldl (fun ws (k : Nat) => setR ws (k : Int)) (List.replicate n 0)
theorem putF_length : ∀ (l : List Nat) (ws : List Nat), (l.foldl (fun ws (k : Nat) => setR ws (k : Int)) ws).length = ws.length
  | [], ws => rfl
  | k :: l, ws => by rw [List.foldl_cons, putF_length l, setR_length]
theorem putF_words : ∀ (l : List Nat) (ws : List Nat), Words ws → Words (l.foldl (fun ws (k : Nat) => setR ws (k : Int)) ws)
  | [], ws, h => h
  | k :: l, ws, h => by rw [List.foldl_cons]; exact putF_words l _ (setR_lt h _)
theorem putF_has (j : Nat) : ∀ (l : List Nat) (ws : List Nat), (∀ k ∈ l, k < 64 * ws.length) → hasB (l.foldl (fun ws (k : Nat) => setR ws (k : Int)) ws) j = (hasB ws j || decide (j ∈ l))
  | [], ws, _ => by simp
  | k :: l, ws, h => by
    have hk := h k (by simp)
    rw [List.foldl_cons, putF_has j l _ (by intro x hx; rw [setR_length]; exact h x (by simp [hx])), setR_has (by omega)]
    simp only [List.mem_cons, Bool.decide_or, Bool.or_assoc]
theorem zero_has (n j : Nat) : hasB (List.replicate n 0) j = false := by
  have : (List.replicate n 0).getD (j / 64) 0 = 0 := by
    rw [List.getD_eq_getElem?_getD, List.getElem?_replicate]; split <;> rfl
  rw [hasB_test, this]; simp
theorem putL_length (n : Nat) (l : List Nat) : (putL n l).length = n := by rw [putL, putF_length]; simp
theorem zero_words (n : Nat) : Words (List.replicate n 0) := fun w hw => by rw [(List.mem_replicate.1 hw).2]; omega
theorem putL_words (n : Nat) (l : List Nat) : Words (putL n l) := putF_words l _ (zero_words n)
theorem putL_ones {ws : List Nat} (hw : Words ws) : putL ws.length (onesL ws) = ws := by
  refine row_ext (putL_length _ _) (putL_words _ _) hw fun j hj => ?_
  rw [putL_length] at hj
  rw [putL, putF_has j _ _ (by intro k hk; rw [List.length_replicate]; exact (onesL_mem.1 hk).1), zero_has, Bool.false_or]
  cases hb : hasB ws j with
  | false => rw [decide_eq_false]; intro hm; rw [(onesL_mem.1 hm).2] at hb; cases hb
  | true => rw [decide_eq_true]; exact onesL_mem.2 ⟨hj, hb⟩
theorem putL_snoc (n : Nat) (l : List Nat) (k : Nat) : putL n (l ++ [k]) = setR (putL n l) (k : Int) := by simp [putL]
theorem filter_two {α : Type} (p q : α → Bool) : ∀ l : List α, (l.filter fun x => p x && q x).length + (l.filter fun x => p x || q x).length = (l.filter p).length + (l.filter q).length
  | [] => rfl
  | x :: l => by
    have ih := filter_two p q l
    simp only [List.filter_cons]
    cases p x <;> cases q x <;> simp <;> omega
theorem count_two {a b : List Nat} (hl : a.length = b.length) : (onesL (andR [a, b])).length + (onesL (orR [a, b])).length = (onesL a).length + (onesL b).length := by
  have h1 : (andR [a, b]).length = a.length := by rw [andR, List.foldl_cons, List.foldl_nil, andP_length]; omega
  have h2 : (orR [a, b]).length = a.length := by rw [orR, List.foldl_cons, List.foldl_cons, List.foldl_nil, orP_length, orP_length]; simp; omega
  have e1 : hasB (andR [a, b]) = fun j => hasB a j && hasB b j := by
    funext j
    rw [andR, andF_has]; simp
  have e2 : hasB (orR [a, b]) = fun j => hasB a j || hasB b j := by
    funext j
    rw [orR_has]; simp
  unfold onesL onesTo
  rw [h1, h2, e1, e2, ← hl]
  exact filter_two _ _ _

theorem back_fc (h : Heap) (x y : D) (a0 b0 : List Nat) (s : RowOf h x a0) (t : RowOf h y b0) (hla : a0.length ≤ 1048576) (hlb : b0.length ≤ 1048576) (hwa : Words a0) (hwb : Words b0) :
    FC Try.prog 7 [x, y] h fun d h' => d = .bool true ∧ h' = h := by
  have k1 := SlOf.lend s
  have k2 := SlOf.sort s
  have k3 := SlOf.lend t
  have k4 := SlOf.sort t
  refine FC.goes cf7 ?_; simp only [c7]; simp only [List.length_cons, List.length_nil, Nat.reduceAdd, Nat.reduceSub, List.replicate_succ, List.replicate_zero, List.cons_append, List.nil_append]
  by_cases hg1 : (40 : Int) < a0.length
  · simp (disch := first | omega | (simp only [List.length_append, List.length_cons, List.length_nil]; omega)) only [c7r0, c7r1, c7r2, c7r3, c7r4, c7r5, c7r6, c7r7, c7r8, c7r9, c7r10, c7r11, c7r12, c7r13, c7r14, c7l15, c7r16, c7r17, c7r18, c7r19, c7r20, c7r21, c7r22, c7r23, c7l24, c7r25, k1, k2, hg1, go_sem, ↓reduceIte, reduceCtorEq, Nat.reduceAdd, Nat.reduceSub, Nat.reducePow, Nat.reduceMul, Nat.reduceEqDiff, Nat.reduceLT, Nat.reduceLeDiff, Int.reduceToNat, Int.reduceLT, Int.reduceLE, Int.reduceEq, Int.reduceNeg, Int.reduceAdd, Int.reduceSub, Int.reduceMul]
    refine gfc_of (live18 _) ?_
    rintro d h' ⟨rfl, e⟩
    rw [e]
    simp (disch := first | omega | (simp only [List.length_append, List.length_cons, List.length_nil]; omega)) only [go_sem, ↓reduceIte, reduceCtorEq, Nat.reduceAdd, Nat.reduceSub, Nat.reducePow, Nat.reduceMul, Nat.reduceEqDiff, Nat.reduceLT, Nat.reduceLeDiff, Int.reduceToNat, Int.reduceLT, Int.reduceLE, Int.reduceEq, Int.reduceNeg, Int.reduceAdd, Int.reduceSub, Int.reduceMul]
    exact FinOk.all ⟨rfl, rfl⟩
  · by_cases hg2 : (40 : Int) < b0.length
    · simp (disch := first | omega | (simp only [List.length_append, List.length_cons, List.length_nil]; omega)) only [c7r0, c7r1, c7r2, c7r3, c7r4, c7r5, c7r6, c7r7, c7r8, c7r9, c7r10, c7r11, c7r12, c7r13, c7r14, c7l15, c7r16, c7r17, c7r18, c7r19, c7r20, c7r21, c7r22, c7r23, c7l24, c7r25, k1, k2, k3, k4, hg1, hg2, go_sem, ↓reduceIte, reduceCtorEq, Nat.reduceAdd, Nat.reduceSub, Nat.reducePow, Nat.reduceMul, Nat.reduceEqDiff, Nat.reduceLT, Nat.reduceLeDiff, Int.reduceToNat, Int.reduceLT, Int.reduceLE, Int.reduceEq, Int.reduceNeg, Int.reduceAdd, Int.reduceSub, Int.reduceMul]
      refine gfc_of (live18 _) ?_
      rintro d h' ⟨rfl, e⟩
      rw [e]
      simp (disch := first | omega | (simp only [List.length_append, List.length_cons, List.length_nil]; omega)) only [go_sem, ↓reduceIte, reduceCtorEq, Nat.reduceAdd, Nat.reduceSub, Nat.reducePow, Nat.reduceMul, Nat.reduceEqDiff, Nat.reduceLT, Nat.reduceLeDiff, Int.reduceToNat, Int.reduceLT, Int.reduceLE, Int.reduceEq, Int.reduceNeg, Int.reduceAdd, Int.reduceSub, Int.reduceMul]
      exact FinOk.all ⟨rfl, rfl⟩
    · have m1 : (if (b0.length : Int) < (a0.length : Int) then (b0.length : Int) else (a0.length : Int)) = ((min a0.length b0.length : Nat) : Int) := by
        split <;> omega
      obtain ⟨xa, ga, sa⟩ := s.cut (m := min a0.length b0.length) (by omega)
      obtain ⟨xb, gb, sb⟩ := t.cut (m := min a0.length b0.length) (by omega)
      have la : (a0.take (min a0.length b0.length)).length = min a0.length b0.length := by rw [List.length_take]; omega
      have lb : (b0.take (min a0.length b0.length)).length = min a0.length b0.length := by rw [List.length_take]; omega
      have wa : Words (a0.take (min a0.length b0.length)) := fun w hw => hwa w (List.mem_of_mem_take hw)
      have wb : Words (b0.take (min a0.length b0.length)) := fun w hw => hwb w (List.mem_of_mem_take hw)
      have hn : min a0.length b0.length ≤ 40 := by omega
      generalize a0.take (min a0.length b0.length) = a at *
      generalize b0.take (min a0.length b0.length) = b at *
      generalize min a0.length b0.length = n at *
      have e1 : IntKind.i64.wrap (64 * (n : Int)) = ((64 * n : Nat) : Int) := by rw [w_i64 (by omega) (by omega)]; omega
      simp (disch := first | omega | (simp only [List.length_append, List.length_cons, List.length_nil]; omega)) only [c7r0, c7r1, c7r2, c7r3, c7r4, c7r5, c7r6, c7r7, c7r8, c7r9, c7r10, c7r11, c7r12, c7r13, c7r14, c7l15, c7r16, c7r17, c7r18, c7r19, c7r20, c7r21, c7r22, c7r23, c7l24, c7r25, k1, k2, k3, k4, hg1, hg2, m1, ga, gb, e1, go_sem, ↓reduceIte, reduceCtorEq, Nat.reduceAdd, Nat.reduceSub, Nat.reducePow, Nat.reduceMul, Nat.reduceEqDiff, Nat.reduceLT, Nat.reduceLeDiff, Int.reduceToNat, Int.reduceLT, Int.reduceLE, Int.reduceEq, Int.reduceNeg, Int.reduceAdd, Int.reduceSub, Int.reduceMul]
      refine gfc_of (new_md _ ((64 * n : Nat) : Int) (by omega) (by omega)) ?_
      rintro xc h1 ⟨E1, sc⟩
      rw [newR_of (by omega)] at sc
      have sa := sa.ext E1
      have sb := sb.ext E1
      simp (disch := first | omega | (simp only [List.length_append, List.length_cons, List.length_nil]; omega)) only [go_sem, ↓reduceIte, reduceCtorEq, Nat.reduceAdd, Nat.reduceSub, Nat.reducePow, Nat.reduceMul, Nat.reduceEqDiff, Nat.reduceLT, Nat.reduceLeDiff, Int.reduceToNat, Int.reduceLT, Int.reduceLE, Int.reduceEq, Int.reduceNeg, Int.reduceAdd, Int.reduceSub, Int.reduceMul]
      refine gfc_of (list_md _ xa a sa (by omega) wa) ?_
      rintro xl h2 ⟨E2, sl⟩
      have sa := sa.ext E2
      have sb := sb.ext E2
      have sc := sc.ext E2
      have hol := onesTo_le a (64 * a.length)
      have hol2 : (onesL a).length ≤ 64 * n := by
        have e : onesL a = onesTo a (64 * a.length) := rfl
        rw [e]; omega
      simp (disch := first | omega | (simp only [List.length_append, List.length_cons, List.length_nil]; omega)) only [go_sem, ↓reduceIte, reduceCtorEq, Nat.reduceAdd, Nat.reduceSub, Nat.reducePow, Nat.reduceMul, Nat.reduceEqDiff, Nat.reduceLT, Nat.reduceLeDiff, Int.reduceToNat, Int.reduceLT, Int.reduceLE, Int.reduceEq, Int.reduceNeg, Int.reduceAdd, Int.reduceSub, Int.reduceMul]
      refine loop_to (onesL a).length (fun i st => ∃ (d : D) (hh : Heap), Ext h2 hh ∧ RowOf hh d (putL n ((onesL a).take i)) ∧ ∃ (j : Nat → D), st = ⟨(xa :: xb :: j 2 :: j 3 :: j 4 :: .int .i64 (n : Int) :: d :: xl :: .int .i64 (i : Int) :: j 9 :: j 10 :: j 11 :: j 12 :: j 13 :: j 14 :: j 15 :: j 16 :: j 17 :: j 18 :: j 19 :: j 20 :: j 21 :: j 22 :: j 23 :: j 24 :: j 25 :: j 26 :: j 27 :: j 28 :: j 29 :: j 30 :: j 31 :: j 32 :: j 33 :: j 34 :: j 35 :: j 36 :: j 37 :: j 38 :: j 39 :: j 40 :: j 41 :: j 42 :: j 43 :: j 44 :: j 45 :: j 46 :: j 47 :: j 48 :: j 49 :: j 50 :: j 51 :: j 52 :: j 53 :: j 54 :: j 55 :: j 56 :: j 57 :: j 58 :: j 59 :: j 60 :: j 61 :: j 62 :: j 63 :: j 64 :: j 65 :: j 66 :: j 67 :: j 68 :: j 69 :: j 70 :: j 71 :: j 72 :: j 73 :: j 74 :: j 75 :: j 76 :: j 77 :: j 78 :: j 79 :: j 80 :: j 81 :: j 82 :: j 83 :: j 84 :: j 85 :: j 86 :: j 87 :: j 88 :: j 89 :: j 90 :: j 91 :: j 92 :: j 93 :: j 94 :: j 95 :: j 96 :: j 97 :: j 98 :: j 99 :: j 100 :: j 101 :: j 102 :: j 103 :: j 104 :: j 105 :: j 106 :: j 107 :: j 108 :: j 109 :: j 110 :: j 111 :: j 112 :: j 113 :: j 114 :: j 115 :: j 116 :: j 117 :: j 118 :: j 119 :: j 120 :: []), hh⟩) ⟨xc, h2, Ext.refl _, sc, junk rfl⟩ ?_
      rintro i st hi ⟨d, hh, Eh, sd, j, rfl⟩
      have sl' := SlOf.ext sl Eh
      by_cases hin : i < (onesL a).length
      · have hin' : (i : Int) < (onesL a).length := by omega
        obtain ⟨p, cs, q1, q2, q3⟩ := sl'.elem (k := .i64) (i := (i : Int)) (by omega) (by omega)
        have q4 := q3 0 (by omega)
        rw [show ((i : Int).toNat * 1 + 0) = i by omega, i64s_get hin] at q4
        have gi : (onesL a).getD i 0 = (onesL a)[i] := by simp [List.getD_eq_getElem?_getD, List.getElem?_eq_getElem hin]
        have hmi : (onesL a).getD i 0 < 64 * a.length := by
          rw [gi]; exact (onesL_mem.1 (List.getElem_mem hin)).1
        have hsn : putL n ((onesL a).take (i + 1)) = setR (putL n ((onesL a).take i)) (((onesL a).getD i 0 : Nat) : Int) := by
          rw [List.take_add_one, List.getElem?_eq_getElem hin, gi]
          exact putL_snoc _ _ _
        have hpl := putL_length n ((onesL a).take i)
        have hpw := putL_words n ((onesL a).take i)
        have e5 : IntKind.i64.wrap ((i : Int) + 1) = ((i + 1 : Nat) : Int) := by rw [w_i64 (by omega) (by omega)]; omega
        rcases Nat.eq_zero_or_pos i with h0 | h0
        · subst h0
          have q1' := q1
          have e5' := e5
          have hin'' := hin'
          simp only [Int.cast_ofNat_Int] at q1' e5' hin''
          generalize (onesL a).getD 0 0 = v at *
          simp (disch := first | omega | (simp only [List.length_append, List.length_cons, List.length_nil]; omega)) only [c7r0, c7r1, c7r2, c7r3, c7r4, c7r5, c7r6, c7r7, c7r8, c7r9, c7r10, c7r11, c7r12, c7r13, c7r14, c7l15, c7r16, c7r17, c7r18, c7r19, c7r20, c7r21, c7r22, c7r23, c7l24, c7r25, sl'.lend, sl'.sort, hin'', q1', q2, q4, go_sem, ↓reduceIte, reduceCtorEq, Nat.reduceAdd, Nat.reduceSub, Nat.reducePow, Nat.reduceMul, Nat.reduceEqDiff, Nat.reduceLT, Nat.reduceLeDiff, Int.reduceToNat, Int.reduceLT, Int.reduceLE, Int.reduceEq, Int.reduceNeg, Int.reduceAdd, Int.reduceSub, Int.reduceMul]
          refine gfc_of (set_md _ d _ sd (by omega) hpw (v : Int) (by omega) (by omega)) ?_
          rintro d2 h3 ⟨E3, s3⟩
          rw [← hsn] at s3
          simp (disch := first | omega | (simp only [List.length_append, List.length_cons, List.length_nil]; omega)) only [e5', go_sem, ↓reduceIte, reduceCtorEq, Nat.reduceAdd, Nat.reduceSub, Nat.reducePow, Nat.reduceMul, Nat.reduceEqDiff, Nat.reduceLT, Nat.reduceLeDiff, Int.reduceToNat, Int.reduceLT, Int.reduceLE, Int.reduceEq, Int.reduceNeg, Int.reduceAdd, Int.reduceSub, Int.reduceMul]
          exact ⟨hin, d2, h3, Eh.trans E3, s3, junk rfl⟩
        · obtain ⟨i, rfl⟩ : ∃ i', i = i' + 1 := ⟨i - 1, by omega⟩
          have hprev : (onesL a).getD i 0 < (onesL a).getD (i + 1) 0 := by
            have := List.pairwise_iff_getElem.1 (onesL_rise a) i (i + 1) (by omega) hin (by omega)
            rw [gi]
            rwa [List.getD_eq_getElem?_getD, List.getElem?_eq_getElem (by omega)]
          obtain ⟨p', cs', r1, r2, r3⟩ := sl'.elem (k := .i64) (i := (i : Int)) (by omega) (by omega)
          have r4 := r3 0 (by omega)
          rw [show ((i : Int).toNat * 1 + 0) = i by omega, i64s_get (by omega)] at r4
          have e6 : IntKind.i64.wrap (((i + 1 : Nat) : Int) - 1) = (i : Int) := by rw [w_i64 (by omega) (by omega)]; omega
          have hp0 : (0 : Int) < ((i + 1 : Nat) : Int) := by omega
          have hle : ¬ (((onesL a).getD (i + 1) 0 : Nat) : Int) ≤ (((onesL a).getD i 0 : Nat) : Int) := by omega
          generalize (onesL a).getD i 0 = u at *
          generalize (onesL a).getD (i + 1) 0 = v at *
          simp (disch := first | omega | (simp only [List.length_append, List.length_cons, List.length_nil]; omega)) only [c7r0, c7r1, c7r2, c7r3, c7r4, c7r5, c7r6, c7r7, c7r8, c7r9, c7r10, c7r11, c7r12, c7r13, c7r14, c7l15, c7r16, c7r17, c7r18, c7r19, c7r20, c7r21, c7r22, c7r23, c7l24, c7r25, sl'.lend, sl'.sort, hin', hp0, q1, q2, q4, e6, r1, r2, r4, hle, go_sem, ↓reduceIte, reduceCtorEq, Nat.reduceAdd, Nat.reduceSub, Nat.reducePow, Nat.reduceMul, Nat.reduceEqDiff, Nat.reduceLT, Nat.reduceLeDiff, Int.reduceToNat, Int.reduceLT, Int.reduceLE, Int.reduceEq, Int.reduceNeg, Int.reduceAdd, Int.reduceSub, Int.reduceMul]
          refine gfc_of (set_md _ d _ sd (by omega) hpw (v : Int) (by omega) (by omega)) ?_
          rintro d2 h3 ⟨E3, s3⟩
          rw [← hsn] at s3
          simp (disch := first | omega | (simp only [List.length_append, List.length_cons, List.length_nil]; omega)) only [e5, go_sem, ↓reduceIte, reduceCtorEq, Nat.reduceAdd, Nat.reduceSub, Nat.reducePow, Nat.reduceMul, Nat.reduceEqDiff, Nat.reduceLT, Nat.reduceLeDiff, Int.reduceToNat, Int.reduceLT, Int.reduceLE, Int.reduceEq, Int.reduceNeg, Int.reduceAdd, Int.reduceSub, Int.reduceMul]
          exact ⟨hin, d2, h3, Eh.trans E3, s3, junk rfl⟩
      · have hin' : ¬ (i : Int) < (onesL a).length := by omega
        have : i = (onesL a).length := by omega
        subst this
        rw [List.take_length, ← la, putL_ones wa] at sd
        have sa := sa.ext Eh
        have sb := sb.ext Eh
        simp (disch := first | omega | (simp only [List.length_append, List.length_cons, List.length_nil]; omega)) only [c7r0, c7r1, c7r2, c7r3, c7r4, c7r5, c7r6, c7r7, c7r8, c7r9, c7r10, c7r11, c7r12, c7r13, c7r14, c7l15, c7r16, c7r17, c7r18, c7r19, c7r20, c7r21, c7r22, c7r23, c7l24, c7r25, sl'.lend, sl'.sort, hin', go_sem, ↓reduceIte, reduceCtorEq, Nat.reduceAdd, Nat.reduceSub, Nat.reducePow, Nat.reduceMul, Nat.reduceEqDiff, Nat.reduceLT, Nat.reduceLeDiff, Int.reduceToNat, Int.reduceLT, Int.reduceLE, Int.reduceEq, Int.reduceNeg, Int.reduceAdd, Int.reduceSub, Int.reduceMul]
        refine gfc_of (same_fc _ d xa a a sd sa (by omega) (by omega)) ?_
        rintro d h' ⟨rfl, e⟩
        rw [e]
        have hls : ∀ x ∈ [a, b], x.length ≤ 1048576 := by simp; omega
        have hws : ∀ x ∈ [a, b], Words x := by simpa using ⟨wa, wb⟩
        obtain ⟨l1, l2, l3⟩ := one_sl (SlOf.sort sa)
        obtain ⟨l4, l5, l6⟩ := one_sl (SlOf.sort sb)
        simp (disch := first | omega | (simp only [List.length_append, List.length_cons, List.length_nil]; omega)) only [l1, l2, l3, l4, l5, l6, go_sem, ↓reduceIte, reduceCtorEq, Nat.reduceAdd, Nat.reduceSub, Nat.reducePow, Nat.reduceMul, Nat.reduceEqDiff, Nat.reduceLT, Nat.reduceLeDiff, Int.reduceToNat, Int.reduceLT, Int.reduceLE, Int.reduceEq, Int.reduceNeg, Int.reduceAdd, Int.reduceSub, Int.reduceMul]
        refine gfc_of (and_md _ _ [a, b] (rows2 sa sb) (by simp) hls hws) ?_
        rintro xx h5 ⟨E5, sx⟩
        have F5 : Ext hh h5 := (Ext.app (Ext.refl hh) _).trans E5
        have sa := sa.ext F5
        have sb := sb.ext F5
        simp (disch := first | omega | (simp only [List.length_append, List.length_cons, List.length_nil]; omega)) only [l1, l2, l3, l4, l5, l6, go_sem, ↓reduceIte, reduceCtorEq, Nat.reduceAdd, Nat.reduceSub, Nat.reducePow, Nat.reduceMul, Nat.reduceEqDiff, Nat.reduceLT, Nat.reduceLeDiff, Int.reduceToNat, Int.reduceLT, Int.reduceLE, Int.reduceEq, Int.reduceNeg, Int.reduceAdd, Int.reduceSub, Int.reduceMul]
        refine gfc_of (or_md _ _ [a, b] (rows2 sa sb) (by simp) hls hws) ?_
        rintro xy h6 ⟨E6, sy⟩
        have F6 : Ext h5 h6 := (Ext.app (Ext.refl h5) _).trans E6
        have sa := sa.ext F6
        have sb := sb.ext F6
        have sx := sx.ext F6
        have hwx := andR_words hws
        have hwy := orR_words hws
        have hlx : (andR [a, b]).length = n := by rw [andR, List.foldl_cons, List.foldl_nil, andP_length]; omega
        have hly : (orR [a, b]).length = n := by rw [orR, List.foldl_cons, List.foldl_cons, List.foldl_nil, orP_length, orP_length]; simp; omega
        have hax : ∀ j, hasB (andR [a, b]) j = (hasB a j && hasB b j) := fun j => by rw [andR, andF_has]; simp
        have hay : ∀ j, hasB (orR [a, b]) j = (hasB a j || hasB b j) := fun j => by rw [orR_has]; simp
        have hcnt := count_two (a := a) (b := b) (by omega)
        generalize andR [a, b] = X at *
        generalize orR [a, b] = Y at *
        simp (disch := first | omega | (simp only [List.length_append, List.length_cons, List.length_nil]; omega)) only [go_sem, ↓reduceIte, reduceCtorEq, Nat.reduceAdd, Nat.reduceSub, Nat.reducePow, Nat.reduceMul, Nat.reduceEqDiff, Nat.reduceLT, Nat.reduceLeDiff, Int.reduceToNat, Int.reduceLT, Int.reduceLE, Int.reduceEq, Int.reduceNeg, Int.reduceAdd, Int.reduceSub, Int.reduceMul]
        refine loop_to (64 * n) (fun k st => ∃ (j : Nat → D), st = ⟨(xa :: xb :: j 2 :: j 3 :: j 4 :: .int .i64 (n : Int) :: j 6 :: j 7 :: j 8 :: xx :: xy :: .int .i64 (k : Int) :: j 12 :: j 13 :: j 14 :: j 15 :: j 16 :: j 17 :: j 18 :: j 19 :: j 20 :: j 21 :: j 22 :: j 23 :: j 24 :: j 25 :: j 26 :: j 27 :: j 28 :: j 29 :: j 30 :: j 31 :: j 32 :: j 33 :: j 34 :: j 35 :: j 36 :: j 37 :: j 38 :: j 39 :: j 40 :: j 41 :: j 42 :: j 43 :: j 44 :: j 45 :: j 46 :: j 47 :: j 48 :: j 49 :: j 50 :: j 51 :: j 52 :: j 53 :: j 54 :: j 55 :: j 56 :: j 57 :: j 58 :: j 59 :: j 60 :: j 61 :: j 62 :: j 63 :: j 64 :: j 65 :: j 66 :: j 67 :: j 68 :: j 69 :: j 70 :: j 71 :: j 72 :: j 73 :: j 74 :: j 75 :: j 76 :: j 77 :: j 78 :: j 79 :: j 80 :: j 81 :: j 82 :: j 83 :: j 84 :: j 85 :: j 86 :: j 87 :: j 88 :: j 89 :: j 90 :: j 91 :: j 92 :: j 93 :: j 94 :: j 95 :: j 96 :: j 97 :: j 98 :: j 99 :: j 100 :: j 101 :: j 102 :: j 103 :: j 104 :: j 105 :: j 106 :: j 107 :: j 108 :: j 109 :: j 110 :: j 111 :: j 112 :: j 113 :: j 114 :: j 115 :: j 116 :: j 117 :: j 118 :: j 119 :: j 120 :: []), h6⟩) (junk rfl) ?_
        rintro k st hk ⟨j, rfl⟩
        by_cases hkn : k < 64 * n
        · have hkn' : (k : Int) < ((64 * n : Nat) : Int) := by omega
          have e5 : IntKind.i64.wrap ((k : Int) + 1) = ((k + 1 : Nat) : Int) := by rw [w_i64 (by omega) (by omega)]; omega
          simp (disch := first | omega | (simp only [List.length_append, List.length_cons, List.length_nil]; omega)) only [c7r0, c7r1, c7r2, c7r3, c7r4, c7r5, c7r6, c7r7, c7r8, c7r9, c7r10, c7r11, c7r12, c7r13, c7r14, c7l15, c7r16, c7r17, c7r18, c7r19, c7r20, c7r21, c7r22, c7r23, c7l24, c7r25, e1, hkn', go_sem, ↓reduceIte, reduceCtorEq, Nat.reduceAdd, Nat.reduceSub, Nat.reducePow, Nat.reduceMul, Nat.reduceEqDiff, Nat.reduceLT, Nat.reduceLeDiff, Int.reduceToNat, Int.reduceLT, Int.reduceLE, Int.reduceEq, Int.reduceNeg, Int.reduceAdd, Int.reduceSub, Int.reduceMul]
          refine gfc_of (has_fc _ xx X sx hwx (k : Int) (by omega) (by omega)) ?_
          rintro d h' ⟨rfl, e⟩
          rw [e, hasR_nat, hax]
          simp (disch := first | omega | (simp only [List.length_append, List.length_cons, List.length_nil]; omega)) only [go_sem, ↓reduceIte, reduceCtorEq, Nat.reduceAdd, Nat.reduceSub, Nat.reducePow, Nat.reduceMul, Nat.reduceEqDiff, Nat.reduceLT, Nat.reduceLeDiff, Int.reduceToNat, Int.reduceLT, Int.reduceLE, Int.reduceEq, Int.reduceNeg, Int.reduceAdd, Int.reduceSub, Int.reduceMul]
          refine gfc_of (has_fc _ xa a sa wa (k : Int) (by omega) (by omega)) ?_
          rintro d h' ⟨rfl, e⟩
          rw [e, hasR_nat]
          cases hak : hasB a k with
          | false =>
            simp (disch := first | omega | (simp only [List.length_append, List.length_cons, List.length_nil]; omega)) only [Bool.false_and, go_sem, ↓reduceIte, reduceCtorEq, Nat.reduceAdd, Nat.reduceSub, Nat.reducePow, Nat.reduceMul, Nat.reduceEqDiff, Nat.reduceLT, Nat.reduceLeDiff, Int.reduceToNat, Int.reduceLT, Int.reduceLE, Int.reduceEq, Int.reduceNeg, Int.reduceAdd, Int.reduceSub, Int.reduceMul]
            refine gfc_of (has_fc _ xy Y sy hwy (k : Int) (by omega) (by omega)) ?_
            rintro d h' ⟨rfl, e⟩
            rw [e, hasR_nat, hay, hak]
            simp (disch := first | omega | (simp only [List.length_append, List.length_cons, List.length_nil]; omega)) only [go_sem, ↓reduceIte, reduceCtorEq, Nat.reduceAdd, Nat.reduceSub, Nat.reducePow, Nat.reduceMul, Nat.reduceEqDiff, Nat.reduceLT, Nat.reduceLeDiff, Int.reduceToNat, Int.reduceLT, Int.reduceLE, Int.reduceEq, Int.reduceNeg, Int.reduceAdd, Int.reduceSub, Int.reduceMul]
            refine gfc_of (has_fc _ xa a sa wa (k : Int) (by omega) (by omega)) ?_
            rintro d h' ⟨rfl, e⟩
            rw [e, hasR_nat, hak]
            simp (disch := first | omega | (simp only [List.length_append, List.length_cons, List.length_nil]; omega)) only [go_sem, ↓reduceIte, reduceCtorEq, Nat.reduceAdd, Nat.reduceSub, Nat.reducePow, Nat.reduceMul, Nat.reduceEqDiff, Nat.reduceLT, Nat.reduceLeDiff, Int.reduceToNat, Int.reduceLT, Int.reduceLE, Int.reduceEq, Int.reduceNeg, Int.reduceAdd, Int.reduceSub, Int.reduceMul]
            refine gfc_of (has_fc _ xb b sb wb (k : Int) (by omega) (by omega)) ?_
            rintro d h' ⟨rfl, e⟩
            rw [e, hasR_nat]
            cases hasB b k with
            | false =>
              simp (disch := first | omega | (simp only [List.length_append, List.length_cons, List.length_nil]; omega)) only [Bool.or_false, Bool.false_or, e5, go_sem, ↓reduceIte, reduceCtorEq, Nat.reduceAdd, Nat.reduceSub, Nat.reducePow, Nat.reduceMul, Nat.reduceEqDiff, Nat.reduceLT, Nat.reduceLeDiff, Int.reduceToNat, Int.reduceLT, Int.reduceLE, Int.reduceEq, Int.reduceNeg, Int.reduceAdd, Int.reduceSub, Int.reduceMul]
              exact ⟨hkn, junk rfl⟩
            | true =>
              simp (disch := first | omega | (simp only [List.length_append, List.length_cons, List.length_nil]; omega)) only [Bool.or_true, Bool.false_or, e5, go_sem, ↓reduceIte, reduceCtorEq, Nat.reduceAdd, Nat.reduceSub, Nat.reducePow, Nat.reduceMul, Nat.reduceEqDiff, Nat.reduceLT, Nat.reduceLeDiff, Int.reduceToNat, Int.reduceLT, Int.reduceLE, Int.reduceEq, Int.reduceNeg, Int.reduceAdd, Int.reduceSub, Int.reduceMul]
              exact ⟨hkn, junk rfl⟩
          | true =>
            simp (disch := first | omega | (simp only [List.length_append, List.length_cons, List.length_nil]; omega)) only [go_sem, ↓reduceIte, reduceCtorEq, Nat.reduceAdd, Nat.reduceSub, Nat.reducePow, Nat.reduceMul, Nat.reduceEqDiff, Nat.reduceLT, Nat.reduceLeDiff, Int.reduceToNat, Int.reduceLT, Int.reduceLE, Int.reduceEq, Int.reduceNeg, Int.reduceAdd, Int.reduceSub, Int.reduceMul]
            refine gfc_of (has_fc _ xb b sb wb (k : Int) (by omega) (by omega)) ?_
            rintro d h' ⟨rfl, e⟩
            rw [e, hasR_nat]
            cases hbk : hasB b k with
            | false =>
              simp (disch := first | omega | (simp only [List.length_append, List.length_cons, List.length_nil]; omega)) only [go_sem, ↓reduceIte, reduceCtorEq, Nat.reduceAdd, Nat.reduceSub, Nat.reducePow, Nat.reduceMul, Nat.reduceEqDiff, Nat.reduceLT, Nat.reduceLeDiff, Int.reduceToNat, Int.reduceLT, Int.reduceLE, Int.reduceEq, Int.reduceNeg, Int.reduceAdd, Int.reduceSub, Int.reduceMul]
              refine gfc_of (has_fc _ xy Y sy hwy (k : Int) (by omega) (by omega)) ?_
              rintro d h' ⟨rfl, e⟩
              rw [e, hasR_nat, hay, hak]
              simp (disch := first | omega | (simp only [List.length_append, List.length_cons, List.length_nil]; omega)) only [go_sem, ↓reduceIte, reduceCtorEq, Nat.reduceAdd, Nat.reduceSub, Nat.reducePow, Nat.reduceMul, Nat.reduceEqDiff, Nat.reduceLT, Nat.reduceLeDiff, Int.reduceToNat, Int.reduceLT, Int.reduceLE, Int.reduceEq, Int.reduceNeg, Int.reduceAdd, Int.reduceSub, Int.reduceMul]
              refine gfc_of (has_fc _ xa a sa wa (k : Int) (by omega) (by omega)) ?_
              rintro d h' ⟨rfl, e⟩
              rw [e, hasR_nat, hak]
              simp (disch := first | omega | (simp only [List.length_append, List.length_cons, List.length_nil]; omega)) only [Bool.true_or, e5, go_sem, ↓reduceIte, reduceCtorEq, Nat.reduceAdd, Nat.reduceSub, Nat.reducePow, Nat.reduceMul, Nat.reduceEqDiff, Nat.reduceLT, Nat.reduceLeDiff, Int.reduceToNat, Int.reduceLT, Int.reduceLE, Int.reduceEq, Int.reduceNeg, Int.reduceAdd, Int.reduceSub, Int.reduceMul]
              exact ⟨hkn, junk rfl⟩
            | true =>
              simp (disch := first | omega | (simp only [List.length_append, List.length_cons, List.length_nil]; omega)) only [go_sem, ↓reduceIte, reduceCtorEq, Nat.reduceAdd, Nat.reduceSub, Nat.reducePow, Nat.reduceMul, Nat.reduceEqDiff, Nat.reduceLT, Nat.reduceLeDiff, Int.reduceToNat, Int.reduceLT, Int.reduceLE, Int.reduceEq, Int.reduceNeg, Int.reduceAdd, Int.reduceSub, Int.reduceMul]
              refine gfc_of (has_fc _ xy Y sy hwy (k : Int) (by omega) (by omega)) ?_
              rintro d h' ⟨rfl, e⟩
              rw [e, hasR_nat, hay, hak]
              simp (disch := first | omega | (simp only [List.length_append, List.length_cons, List.length_nil]; omega)) only [go_sem, ↓reduceIte, reduceCtorEq, Nat.reduceAdd, Nat.reduceSub, Nat.reducePow, Nat.reduceMul, Nat.reduceEqDiff, Nat.reduceLT, Nat.reduceLeDiff, Int.reduceToNat, Int.reduceLT, Int.reduceLE, Int.reduceEq, Int.reduceNeg, Int.reduceAdd, Int.reduceSub, Int.reduceMul]
              refine gfc_of (has_fc _ xa a sa wa (k : Int) (by omega) (by omega)) ?_
              rintro d h' ⟨rfl, e⟩
              rw [e, hasR_nat, hak]
              simp (disch := first | omega | (simp only [List.length_append, List.length_cons, List.length_nil]; omega)) only [Bool.true_or, e5, go_sem, ↓reduceIte, reduceCtorEq, Nat.reduceAdd, Nat.reduceSub, Nat.reducePow, Nat.reduceMul, Nat.reduceEqDiff, Nat.reduceLT, Nat.reduceLeDiff, Int.reduceToNat, Int.reduceLT, Int.reduceLE, Int.reduceEq, Int.reduceNeg, Int.reduceAdd, Int.reduceSub, Int.reduceMul]
              exact ⟨hkn, junk rfl⟩
        · have hkn' : ¬ (k : Int) < ((64 * n : Nat) : Int) := by omega
          have c1 := onesTo_le X (64 * X.length)
          have c2 := onesTo_le Y (64 * Y.length)
          have c3 := onesTo_le a (64 * a.length)
          have c4 := onesTo_le b (64 * b.length)
          change (onesL X).length ≤ _ at c1
          change (onesL Y).length ≤ _ at c2
          change (onesL a).length ≤ _ at c3
          change (onesL b).length ≤ _ at c4
          have e6 : IntKind.i64.wrap (((onesL X).length : Int) + ((onesL Y).length : Int)) = (((onesL a).length + (onesL b).length : Nat) : Int) := by rw [w_i64 (by omega) (by omega)]; omega
          have e7 : IntKind.i64.wrap (((onesL a).length : Int) + ((onesL b).length : Int)) = (((onesL a).length + (onesL b).length : Nat) : Int) := by rw [w_i64 (by omega) (by omega)]; omega
          simp (disch := first | omega | (simp only [List.length_append, List.length_cons, List.length_nil]; omega)) only [c7r0, c7r1, c7r2, c7r3, c7r4, c7r5, c7r6, c7r7, c7r8, c7r9, c7r10, c7r11, c7r12, c7r13, c7r14, c7l15, c7r16, c7r17, c7r18, c7r19, c7r20, c7r21, c7r22, c7r23, c7l24, c7r25, e1, hkn', go_sem, ↓reduceIte, reduceCtorEq, Nat.reduceAdd, Nat.reduceSub, Nat.reducePow, Nat.reduceMul, Nat.reduceEqDiff, Nat.reduceLT, Nat.reduceLeDiff, Int.reduceToNat, Int.reduceLT, Int.reduceLE, Int.reduceEq, Int.reduceNeg, Int.reduceAdd, Int.reduceSub, Int.reduceMul]
          refine gfc_of (live18 _) ?_
          rintro d h' ⟨rfl, e⟩
          rw [e]
          simp (disch := first | omega | (simp only [List.length_append, List.length_cons, List.length_nil]; omega)) only [go_sem, ↓reduceIte, reduceCtorEq, Nat.reduceAdd, Nat.reduceSub, Nat.reducePow, Nat.reduceMul, Nat.reduceEqDiff, Nat.reduceLT, Nat.reduceLeDiff, Int.reduceToNat, Int.reduceLT, Int.reduceLE, Int.reduceEq, Int.reduceNeg, Int.reduceAdd, Int.reduceSub, Int.reduceMul]
          refine gfc_of (count_fc _ xx X sx (by omega) hwx) ?_
          rintro d h' ⟨rfl, e⟩
          rw [e]
          simp (disch := first | omega | (simp only [List.length_append, List.length_cons, List.length_nil]; omega)) only [go_sem, ↓reduceIte, reduceCtorEq, Nat.reduceAdd, Nat.reduceSub, Nat.reducePow, Nat.reduceMul, Nat.reduceEqDiff, Nat.reduceLT, Nat.reduceLeDiff, Int.reduceToNat, Int.reduceLT, Int.reduceLE, Int.reduceEq, Int.reduceNeg, Int.reduceAdd, Int.reduceSub, Int.reduceMul]
          refine gfc_of (count_fc _ xy Y sy (by omega) hwy) ?_
          rintro d h' ⟨rfl, e⟩
          rw [e]
          simp (disch := first | omega | (simp only [List.length_append, List.length_cons, List.length_nil]; omega)) only [go_sem, ↓reduceIte, reduceCtorEq, Nat.reduceAdd, Nat.reduceSub, Nat.reducePow, Nat.reduceMul, Nat.reduceEqDiff, Nat.reduceLT, Nat.reduceLeDiff, Int.reduceToNat, Int.reduceLT, Int.reduceLE, Int.reduceEq, Int.reduceNeg, Int.reduceAdd, Int.reduceSub, Int.reduceMul]
          refine gfc_of (count_fc _ xa a sa (by omega) wa) ?_
          rintro d h' ⟨rfl, e⟩
          rw [e]
          simp (disch := first | omega | (simp only [List.length_append, List.length_cons, List.length_nil]; omega)) only [go_sem, ↓reduceIte, reduceCtorEq, Nat.reduceAdd, Nat.reduceSub, Nat.reducePow, Nat.reduceMul, Nat.reduceEqDiff, Nat.reduceLT, Nat.reduceLeDiff, Int.reduceToNat, Int.reduceLT, Int.reduceLE, Int.reduceEq, Int.reduceNeg, Int.reduceAdd, Int.reduceSub, Int.reduceMul]
          refine gfc_of (count_fc _ xb b sb (by omega) wb) ?_
          rintro d h' ⟨rfl, e⟩
          rw [e]
          have e8 : ((onesL X).length : Int) + ((onesL Y).length : Int) = (((onesL a).length + (onesL b).length : Nat) : Int) := by omega
          simp (disch := first | omega | (simp only [List.length_append, List.length_cons, List.length_nil]; omega)) only [e6, e7, e8, go_sem, ↓reduceIte, reduceCtorEq, Nat.reduceAdd, Nat.reduceSub, Nat.reducePow, Nat.reduceMul, Nat.reduceEqDiff, Nat.reduceLT, Nat.reduceLeDiff, Int.reduceToNat, Int.reduceLT, Int.reduceLE, Int.reduceEq, Int.reduceNeg, Int.reduceAdd, Int.reduceSub, Int.reduceMul]
          refine fin_ext ?_ rfl ⟨rfl, rfl⟩
          exact E1.trans (E2.trans (Eh.trans (F5.trans F6)))

theorem back_law (h : Heap) (x0 : (Sh.sl (.int .u64)).T) (ok0 : (Sh.sl (.int .u64)).ok x0) (x1 : (Sh.sl (.int .u64)).T) (ok1 : (Sh.sl (.int .u64)).ok x1)
    (hv : (Sh.sl (.int .u64)).vol x0 + (Sh.sl (.int .u64)).vol x1 ≤ 1048576)
    (D0 : D) (en0 : (Sh.sl (.int .u64)).EncV x0 D0) (D1 : D) (en1 : (Sh.sl (.int .u64)).EncV x1 D1) : FC Try.prog 7 [D0, D1] h fun d h' => d = .bool true ∧ h' = h := by
  obtain ⟨ws, w1, w2, w3, w4⟩ := row_open ok0 en0
  obtain ⟨vs, v1, v2, v3, v4⟩ := row_open ok1 en1
  exact back_fc h D0 D1 ws vs (w4 h) (v4 h) (by omega) (by omega) w1 v1
end Go.Proofs
