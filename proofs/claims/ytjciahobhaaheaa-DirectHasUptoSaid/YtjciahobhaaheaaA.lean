/-
  Own work. The walk over the bits that are set, as a loop over a function.
-/
import Derived.Test.YtjciahobhaaheaaVz
namespace Go.Proofs
open Go Go.Ytjciahobhaaheaa
set_option linter.unusedVariables false
set_option linter.unusedSimpArgs false
set_option maxRecDepth 10000

/-! ### weighbridge/bitrow.bits, params 1 -/
def c46r0 : List AStm := [.op (some 1) none (.box (.t 0)),
    .op (some 2) none (.mv (.c .nilf))]
def c46r1 : List AStm := [.op (some 3) none (.mkfn (.func 49) [] [(.t 1)]),
    .op (some 2) none (.mv (.t 3))]
def c46 : CF := ⟨.seq (.reg c46r0) (.seq (.reg c46r1) (.ret)), [.tmp 2], 4⟩
theorem cf46 : cfun Try.prog 46 = some c46 := by kernel_rfl

/-! ### weighbridge/bitrow.bits$1, params 1 -/
def c49r0 : List AStm := [.op (some 6) none (.load none (.t 1)),
    .op (some 7) none (.len false (.t 6)),
    .op (some 8) none (.mv (.c (.int .i64 0)))]
def c49r1 : List AStm := [.op (some 9) none (.bin .lss (.t 8) (.t 7))]
def c49r2 : List AStm := [.op (some 10) none (.mv (.t 8)),
    .op (some 11) none (.ixs 1 (.t 6) (.t 8)),
    .op (some 12) none (.load none (.t 11)),
    .op (some 3) none (.mv (.t 10)),
    .op (some 4) none (.mv (.t 12))]
def c49r3 : List AStm := [.op (some 13) none (.mv (.t 3)),
    .op (some 14) none (.bin .mul (.t 13) (.c (.int .i64 64))),
    .op (some 5) none (.mv (.t 14))]
def c49r4 : List AStm := [.op (some 15) none (.mv (.t 4)),
    .op (some 16) none (.bin .neq (.t 15) (.c (.int .u64 0)))]
def c49r5 : List AStm := [.op (some 21) none (.mv (.t 4)),
    .op (some 22) none (.bin .and (.t 21) (.c (.int .u64 1))),
    .op (some 23) none (.bin .neq (.t 22) (.c (.int .u64 0))),
    .op (some 24) none (.mv (.t 23)),
    .op (some 25) (some (24, true)) (.mv (.t 0)),
    .op (some 26) (some (24, true)) (.mv (.t 5)),
    .call (some 27) (some (24, true)) (.t 25) [(.t 26)],
    .op (some 28) (some (24, true)) (.un .not (.t 27)),
    .op (some 29) none (.pick (.t 24) (.t 28) (.c (.bool false)))]
def c49r6 : List AStm := [.op (some 17) none (.mv (.t 5)),
    .op (some 18) none (.bin .add (.t 17) (.c (.int .i64 1))),
    .op (some 19) none (.mv (.t 4)),
    .op (some 20) none (.bin .shr (.t 19) (.c (.int .u64 1))),
    .op (some 5) none (.mv (.t 18)),
    .op (some 4) none (.mv (.t 20))]
def c49l7 : AC := .seq (.seq (.reg c49r4) (.cond (.t 16) (.skip) (.exit 2))) (.seq (.block 3 (.seq (.reg c49r5) (.cond (.t 29) (.ret) (.skip)))) (.reg c49r6))
def c49r8 : List AStm := [.op (some 30) none (.bin .add (.t 8) (.c (.int .i64 1))),
    .op (some 8) none (.mv (.t 30))]
def c49l9 : AC := .seq (.reg c49r1) (.seq (.cond (.t 9) (.skip) (.exit 0)) (.seq (.block 1 (.seq (.reg c49r2) (.seq (.reg c49r3) (.block 2 (.loop c49l7))))) (.reg c49r8)))
def c49 : CF := ⟨.seq (.reg c49r0) (.block 0 (.loop c49l9)), [], 31⟩
theorem cf49 : cfun Try.prog 49 = some c49 := by kernel_rfl



def u64s (ws : List Nat) : List D := ws.map fun n : Nat => D.int .u64 (n : Int)
/-- Is a bit set? -/
def hasB (ws : List Nat) (i : Nat) : Bool := decide ((ws.getD (i / 64) 0) / 2 ^ (i % 64) % 2 = 1)
/-- The bits below n that are set. -/
def onesTo (ws : List Nat) (n : Nat) : List Nat := (List.range n).filter (hasB ws)

theorem onesTo_zero (ws : List Nat) : onesTo ws 0 = [] := rfl
theorem onesTo_succ (ws : List Nat) (n : Nat) : onesTo ws (n + 1) = onesTo ws n ++ if hasB ws n then [n] else [] := by
  unfold onesTo
  rw [List.range_succ, List.filter_append]
  congr 1
  cases hb : hasB ws n <;> simp [hb]
theorem u64s_length (ws : List Nat) : (u64s ws).length = ws.length := by simp [u64s]
theorem u64s_get {ws : List Nat} {k : Nat} (h : k < ws.length) : (u64s ws)[k]? = some (.int .u64 ((ws.getD k 0 : Nat) : Int)) := by
  simp [u64s, List.getD_eq_getElem?_getD, List.getElem?_eq_getElem h]
theorem hasB_at {ws : List Nat} {k j : Nat} (hj : j < 64) : hasB ws (64 * k + j) = decide ((ws.getD k 0) / 2 ^ j % 2 = 1) := by
  unfold hasB
  rw [show (64 * k + j) / 64 = k by omega, show (64 * k + j) % 64 = j by omega]
/-- When what is left of a word is nothing, none of the bits that are left is set. -/
theorem onesTo_rest {ws : List Nat} {k j : Nat} (h0 : (ws.getD k 0) / 2 ^ j = 0) : ∀ d, j + d ≤ 64 → onesTo ws (64 * k + (j + d)) = onesTo ws (64 * k + j)
  | 0, _ => rfl
  | d + 1, h => by
    rw [show 64 * k + (j + (d + 1)) = (64 * k + (j + d)) + 1 by omega, onesTo_succ, onesTo_rest h0 d (by omega), hasB_at (by omega)]
    have : (ws.getD k 0) / 2 ^ (j + d) = 0 := by
      rw [Nat.pow_add, ← Nat.div_div_eq_div_mul, h0, Nat.zero_div]
    rw [this]; simp

theorem one_sl {d : D} (h : d.sortOf = 2) : laid d = true ∧ vcells d = [d] ∧ d.one = true := by
  cases d <;> first | exact ⟨rfl, rfl, rfl⟩ | (simp [D.sortOf] at h)

theorem bits_fc (h : Heap) (row : D) (hs : row.sortOf = 2) : FC Try.prog 46 [row] h fun d h' => d = .fn (.func 49) [] [.ref h.length 0] ∧ h' = h ++ [.box [row]] := by
  obtain ⟨l1, l2, l3⟩ := one_sl hs
  refine FC.goes cf46 ?_; simp only [c46]; simp only [List.length_cons, List.length_nil, Nat.reduceAdd, Nat.reduceSub, List.replicate_succ, List.replicate_zero, List.cons_append, List.nil_append]
  simp (disch := first | omega | (simp only [List.length_append, List.length_cons, List.length_nil]; omega)) only [c46r0, c46r1, l1, l2, go_sem, ↓reduceIte, reduceCtorEq, Nat.reduceAdd, Nat.reduceSub, Nat.reducePow, Nat.reduceMul, Nat.reduceEqDiff, Nat.reduceLT, Nat.reduceLeDiff, Int.reduceToNat, Int.reduceLT, Int.reduceLE, Int.reduceEq, Int.reduceNeg, Int.reduceAdd, Int.reduceSub, Int.reduceMul]
  exact FinOk.all ⟨rfl, rfl⟩

/-- THE WALK OVER THE BITS: whatever the yield does. -/
theorem bits1_fc {I : List Nat → Heap → Prop} {Stop : Heap → Prop} (ws : List Nat) (row : D) (b r : Nat) (h : Heap) (h0 : I [] h)
    (hrow : ∀ l h', I l h' → h'[b]? = some (.box [row]) ∧ SlOf h' 1 row (u64s ws) ws.length) (hlen : ws.length ≤ 1048576) (hw : ∀ w ∈ ws, w < 18446744073709551616)
    (hy : ∀ n h', n < 64 * ws.length → hasB ws n = true → I (onesTo ws n) h' → YC Try.prog r [.int .i64 (n : Int)] h' fun d h'' => (d = .bool true ∧ I (onesTo ws n ++ [n]) h'') ∨ (d = .bool false ∧ Stop h'')) :
    FC Try.prog 49 [.yv r, .ref b 0] h fun _ h' => I (onesTo ws (64 * ws.length)) h' ∨ Stop h' := by
  obtain ⟨b0, s0⟩ := hrow _ _ h0
  refine FC.goes cf49 ?_; simp only [c49]; simp only [List.length_cons, List.length_nil, Nat.reduceAdd, Nat.reduceSub, List.replicate_succ, List.replicate_zero, List.cons_append, List.nil_append]
  simp (disch := first | omega | (simp only [List.length_append, List.length_cons, List.length_nil]; omega)) only [c49r0, c49r1, c49r2, c49r3, c49r4, c49r5, c49r6, c49l7, c49r8, c49l9, b0, s0.lend, s0.sort, go_sem, ↓reduceIte, reduceCtorEq, Nat.reduceAdd, Nat.reduceSub, Nat.reducePow, Nat.reduceMul, Nat.reduceEqDiff, Nat.reduceLT, Nat.reduceLeDiff, Int.reduceToNat, Int.reduceLT, Int.reduceLE, Int.reduceEq, Int.reduceNeg, Int.reduceAdd, Int.reduceSub, Int.reduceMul]
  refine loop_to ws.length (fun k st => ∃ h', I (onesTo ws (64 * k)) h' ∧ ∃ (j : Nat → D), st = ⟨(.yv r :: .ref b 0 :: j 2 :: j 3 :: j 4 :: j 5 :: row :: .int .i64 (ws.length : Int) :: .int .i64 (k : Int) :: j 9 :: j 10 :: j 11 :: j 12 :: j 13 :: j 14 :: j 15 :: j 16 :: j 17 :: j 18 :: j 19 :: j 20 :: j 21 :: j 22 :: j 23 :: j 24 :: j 25 :: j 26 :: j 27 :: j 28 :: j 29 :: j 30 :: []), h'⟩) ⟨h, h0, junk rfl⟩ ?_
  rintro k st hk ⟨h', hi, j, rfl⟩
  by_cases hkn : k < ws.length
  · have hkn' : (k : Int) < ws.length := by omega
    obtain ⟨b1, s1⟩ := hrow _ _ hi
    obtain ⟨p, cs, e1, e2, e3⟩ := s1.elem (k := .i64) (i := (k : Int)) (by omega) (by omega)
    have e4 := e3 0 (by omega)
    rw [show ((k : Int).toNat * 1 + 0) = k by omega, u64s_get hkn] at e4
    have hwk : ws.getD k 0 < 18446744073709551616 := hw _ (by simp [List.getD_eq_getElem?_getD, List.getElem?_eq_getElem hkn])
    generalize hwd : ws.getD k 0 = w at hwk e4
    have e5 : IntKind.i64.wrap ((k : Int) * 64) = ((64 * k : Nat) : Int) := by rw [w_i64 (by omega) (by omega)]; omega
    simp (disch := first | omega | (simp only [List.length_append, List.length_cons, List.length_nil]; omega)) only [c49r0, c49r1, c49r2, c49r3, c49r4, c49r5, c49r6, c49l7, c49r8, c49l9, hkn', e1, e2, e4, e5, go_sem, ↓reduceIte, reduceCtorEq, Nat.reduceAdd, Nat.reduceSub, Nat.reducePow, Nat.reduceMul, Nat.reduceEqDiff, Nat.reduceLT, Nat.reduceLeDiff, Int.reduceToNat, Int.reduceLT, Int.reduceLE, Int.reduceEq, Int.reduceNeg, Int.reduceAdd, Int.reduceSub, Int.reduceMul]
    refine loop_to 64 (fun m st => ∃ (v : Nat) (h' : Heap), v = w / 2 ^ m ∧ I (onesTo ws (64 * k + m)) h' ∧ ∃ (j : Nat → D), st = ⟨(.yv r :: .ref b 0 :: j 2 :: j 3 :: .int .u64 (v : Int) :: .int .i64 ((64 * k + m : Nat) : Int) :: row :: .int .i64 (ws.length : Int) :: .int .i64 (k : Int) :: j 9 :: j 10 :: j 11 :: j 12 :: j 13 :: j 14 :: j 15 :: j 16 :: j 17 :: j 18 :: j 19 :: j 20 :: j 21 :: j 22 :: j 23 :: j 24 :: j 25 :: j 26 :: j 27 :: j 28 :: j 29 :: j 30 :: []), h'⟩) ⟨w, h', by simp, hi, junk rfl⟩ ?_
    rintro m st hm ⟨v, h2, hv, hi2, j, rfl⟩
    by_cases hv0 : v = 0
    · have hv0' : (v : Int) = 0 := by omega
      simp (disch := first | omega | (simp only [List.length_append, List.length_cons, List.length_nil]; omega)) only [c49r0, c49r1, c49r2, c49r3, c49r4, c49r5, c49r6, c49l7, c49r8, c49l9, hv0', go_sem, ↓reduceIte, reduceCtorEq, Nat.reduceAdd, Nat.reduceSub, Nat.reducePow, Nat.reduceMul, Nat.reduceEqDiff, Nat.reduceLT, Nat.reduceLeDiff, Int.reduceToNat, Int.reduceLT, Int.reduceLE, Int.reduceEq, Int.reduceNeg, Int.reduceAdd, Int.reduceSub, Int.reduceMul]
      refine ⟨hkn, h2, ?_, junk rfl⟩
      have := onesTo_rest (ws := ws) (k := k) (j := m) (by rw [hwd, ← hv]; exact hv0) (64 - m) (by omega)
      rw [show m + (64 - m) = 64 by omega] at this
      rw [show 64 * (k + 1) = 64 * k + 64 by omega, this]
      exact hi2
    · have hv0' : ¬ (v : Int) = 0 := by omega
      have hm64 : m < 64 := by
        rcases Nat.lt_or_ge m 64 with h | h
        · exact h
        · have : m = 64 := by omega
          subst this
          exfalso
          apply hv0
          rw [hv]
          exact Nat.div_eq_of_lt (by omega)
      have hvl : v < 18446744073709551616 := by
        have : w / 2 ^ m ≤ w := Nat.div_le_self _ _
        omega
      have a1 : arith .and (.int .u64 (v : Int)) (.int .u64 1) = some (.int .u64 ((v % 2 : Nat) : Int)) := by
        have := and_u64 (x := v) (y := 1) hvl (by omega)
        rw [Nat.and_one_is_mod] at this
        exact this
      have hnext : v / 2 = w / 2 ^ (m + 1) := by rw [hv, Nat.pow_succ, Nat.div_div_eq_div_mul]
      have hbit := hasB_at (ws := ws) (k := k) hm64
      rw [hwd, ← hv] at hbit
      have e6 : IntKind.i64.wrap (((64 * k + m : Nat) : Int) + 1) = ((64 * k + (m + 1) : Nat) : Int) := by rw [w_i64 (by omega) (by omega)]; omega
      by_cases hb : v % 2 = 1
      · have hb' : ¬ ((v % 2 : Nat) : Int) = 0 := by omega
        have hbt : hasB ws (64 * k + m) = true := by rw [hbit]; simp [hb]
        simp (disch := first | omega | (simp only [List.length_append, List.length_cons, List.length_nil]; omega)) only [c49r0, c49r1, c49r2, c49r3, c49r4, c49r5, c49r6, c49l7, c49r8, c49l9, hv0', a1, hb', go_sem, ↓reduceIte, reduceCtorEq, Nat.reduceAdd, Nat.reduceSub, Nat.reducePow, Nat.reduceMul, Nat.reduceEqDiff, Nat.reduceLT, Nat.reduceLeDiff, Int.reduceToNat, Int.reduceLT, Int.reduceLE, Int.reduceEq, Int.reduceNeg, Int.reduceAdd, Int.reduceSub, Int.reduceMul]
        refine gyc_of (hy (64 * k + m) h2 (by omega) hbt hi2) ?_
        rintro d h3 (⟨rfl, hi3⟩ | ⟨rfl, hs⟩)
        · simp (disch := first | omega | (simp only [List.length_append, List.length_cons, List.length_nil]; omega)) only [c49r0, c49r1, c49r2, c49r3, c49r4, c49r5, c49r6, c49l7, c49r8, c49l9, e6, go_sem, ↓reduceIte, reduceCtorEq, Nat.reduceAdd, Nat.reduceSub, Nat.reducePow, Nat.reduceMul, Nat.reduceEqDiff, Nat.reduceLT, Nat.reduceLeDiff, Int.reduceToNat, Int.reduceLT, Int.reduceLE, Int.reduceEq, Int.reduceNeg, Int.reduceAdd, Int.reduceSub, Int.reduceMul]
          refine ⟨hm64, _, h3, hnext, ?_, junk rfl⟩
          rw [show 64 * k + (m + 1) = (64 * k + m) + 1 by omega, onesTo_succ, hbt]
          exact hi3
        · simp (disch := first | omega | (simp only [List.length_append, List.length_cons, List.length_nil]; omega)) only [c49r0, c49r1, c49r2, c49r3, c49r4, c49r5, c49r6, c49l7, c49r8, c49l9, e6, go_sem, ↓reduceIte, reduceCtorEq, Nat.reduceAdd, Nat.reduceSub, Nat.reducePow, Nat.reduceMul, Nat.reduceEqDiff, Nat.reduceLT, Nat.reduceLeDiff, Int.reduceToNat, Int.reduceLT, Int.reduceLE, Int.reduceEq, Int.reduceNeg, Int.reduceAdd, Int.reduceSub, Int.reduceMul]
          exact FinOk.all (.inr hs)
      · have hb' : ((v % 2 : Nat) : Int) = 0 := by omega
        have hbt : hasB ws (64 * k + m) = false := by rw [hbit]; simp [hb]
        simp (disch := first | omega | (simp only [List.length_append, List.length_cons, List.length_nil]; omega)) only [c49r0, c49r1, c49r2, c49r3, c49r4, c49r5, c49r6, c49l7, c49r8, c49l9, hv0', a1, hb', e6, go_sem, ↓reduceIte, reduceCtorEq, Nat.reduceAdd, Nat.reduceSub, Nat.reducePow, Nat.reduceMul, Nat.reduceEqDiff, Nat.reduceLT, Nat.reduceLeDiff, Int.reduceToNat, Int.reduceLT, Int.reduceLE, Int.reduceEq, Int.reduceNeg, Int.reduceAdd, Int.reduceSub, Int.reduceMul]
        refine ⟨hm64, _, h2, hnext, ?_, junk rfl⟩
        rw [show 64 * k + (m + 1) = (64 * k + m) + 1 by omega, onesTo_succ, hbt]
        simpa using hi2
  · have hkn' : ¬ (k : Int) < ws.length := by omega
    have : k = ws.length := by omega
    subst this
    simp (disch := first | omega | (simp only [List.length_append, List.length_cons, List.length_nil]; omega)) only [c49r0, c49r1, c49r2, c49r3, c49r4, c49r5, c49r6, c49l7, c49r8, c49l9, hkn', go_sem, ↓reduceIte, reduceCtorEq, Nat.reduceAdd, Nat.reduceSub, Nat.reducePow, Nat.reduceMul, Nat.reduceEqDiff, Nat.reduceLT, Nat.reduceLeDiff, Int.reduceToNat, Int.reduceLT, Int.reduceLE, Int.reduceEq, Int.reduceNeg, Int.reduceAdd, Int.reduceSub, Int.reduceMul]
    exact FinOk.all (.inl hi)
end Go.Proofs
