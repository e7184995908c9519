/-
  Own work. The walks of bitrow: All, Count.
-/
import Derived.Test.YtjciahobhaaheaaC
namespace Go.Proofs
open Go Go.Ytjciahobhaaheaa
set_option linter.unusedVariables false
set_option linter.unusedSimpArgs false
set_option maxRecDepth 10000

/-! ### weighbridge/bitrow.All, params 1 -/
def c23r0 : List AStm := [.op (some 2) none (.mv (.c .nils))]
def c23r1 : List AStm := [.op (some 6) none (.mv (.t 0)),
    .call (some 7) none (.c (.fn (.func 21) [] [])) [(.t 6)],
    .op (some 3) none (.mv (.t 7))]
def c23r2 : List AStm := [.op (some 8) none (.mv (.t 3)),
    .op (some 9) none (.len false (.t 8)),
    .op (some 10) none (.mv (.c (.int .i64 0)))]
def c23r3 : List AStm := [.op (some 11) none (.bin .lss (.t 10) (.t 9))]
def c23r4 : List AStm := [.op (some 12) none (.mv (.t 10)),
    .op (some 4) none (.mv (.t 12))]
def c23r5 : List AStm := [.op (some 13) none (.mv (.t 3)),
    .op (some 14) none (.mv (.t 4)),
    .op (some 15) none (.ixs 1 (.t 13) (.t 14)),
    .op none none (.store 1 (.t 15) (.c (.int .u64 18446744073709551615)))]
def c23r6 : List AStm := [.op (some 16) none (.mv (.t 0)),
    .op (some 17) none (.mv (.t 4)),
    .op (some 18) none (.bin .mul (.t 17) (.c (.int .i64 64))),
    .op (some 19) none (.bin .sub (.t 16) (.t 18)),
    .op (some 5) none (.mv (.t 19))]
def c23r7 : List AStm := [.op (some 20) none (.mv (.t 5)),
    .op (some 21) none (.bin .lss (.t 20) (.c (.int .i64 64)))]
def c23r8 : List AStm := [.op (some 22) none (.mv (.t 3)),
    .op (some 23) none (.mv (.t 4)),
    .op (some 24) none (.mv (.t 5)),
    .op (some 25) none (.conv .u64 (.t 24)),
    .op (some 26) none (.bin .shl (.c (.int .u64 1)) (.t 25)),
    .op (some 27) none (.bin .sub (.t 26) (.c (.int .u64 1))),
    .op (some 28) none (.ixs 1 (.t 22) (.t 23)),
    .op none none (.store 1 (.t 28) (.t 27))]
def c23r9 : List AStm := [.op (some 29) none (.bin .add (.t 10) (.c (.int .i64 1))),
    .op (some 10) none (.mv (.t 29))]
def c23l10 : AC := .seq (.reg c23r3) (.seq (.cond (.t 11) (.skip) (.exit 0)) (.seq (.block 1 (.seq (.reg c23r4) (.seq (.reg c23r5) (.seq (.reg c23r6) (.seq (.reg c23r7) (.cond (.t 21) (.reg c23r8) (.skip))))))) (.reg c23r9)))
def c23r11 : List AStm := [.op (some 30) none (.mv (.t 3)),
    .op (some 2) none (.mv (.t 30))]
def c23 : CF := ⟨.seq (.reg c23r0) (.seq (.reg c23r1) (.seq (.seq (.reg c23r2) (.block 0 (.loop c23l10))) (.seq (.reg c23r11) (.ret)))), [.tmp 2], 31⟩
theorem cf23 : cfun Try.prog 23 = some c23 := by kernel_rfl

/-! ### weighbridge/bitrow.Count, params 1 -/
def c32r0 : List AStm := [.op (some 2) none (.mv (.c (.int .i64 0)))]
def c32r1 : List AStm := [.op (some 3) none (.mv (.c (.int .i64 0)))]
def c32r2 : List AStm := [.op (some 6) none (.mv (.t 0)),
    .op (some 7) none (.len false (.t 6)),
    .op (some 8) none (.mv (.c (.int .i64 0)))]
def c32r3 : List AStm := [.op (some 9) none (.bin .lss (.t 8) (.t 7))]
def c32r4 : List AStm := [.op (some 10) none (.ixs 1 (.t 6) (.t 8)),
    .op (some 11) none (.load none (.t 10)),
    .op (some 5) none (.mv (.t 11))]
def c32r5 : List AStm := [.op (some 12) none (.mv (.t 5)),
    .op (some 13) none (.bin .neq (.t 12) (.c (.int .u64 0)))]
def c32r6 : List AStm := [.op (some 18) none (.mv (.t 3)),
    .op (some 19) none (.bin .add (.t 18) (.c (.int .i64 1))),
    .op (some 3) none (.mv (.t 19))]
def c32r7 : List AStm := [.op (some 14) none (.mv (.t 5)),
    .op (some 15) none (.mv (.t 5)),
    .op (some 16) none (.bin .sub (.t 15) (.c (.int .u64 1))),
    .op (some 17) none (.bin .and (.t 14) (.t 16)),
    .op (some 5) none (.mv (.t 17))]
def c32l8 : AC := .seq (.seq (.reg c32r5) (.cond (.t 13) (.skip) (.exit 2))) (.seq (.block 3 (.reg c32r6)) (.reg c32r7))
def c32r9 : List AStm := [.op (some 20) none (.bin .add (.t 8) (.c (.int .i64 1))),
    .op (some 8) none (.mv (.t 20))]
def c32l10 : AC := .seq (.reg c32r3) (.seq (.cond (.t 9) (.skip) (.exit 0)) (.seq (.block 1 (.seq (.reg c32r4) (.block 2 (.loop c32l8)))) (.reg c32r9)))
def c32r11 : List AStm := [.op (some 21) none (.mv (.t 3)),
    .op (some 2) none (.mv (.t 21))]
def c32 : CF := ⟨.seq (.reg c32r0) (.seq (.reg c32r1) (.seq (.seq (.reg c32r2) (.block 0 (.loop c32l10))) (.seq (.reg c32r11) (.ret)))), [.tmp 2], 22⟩
theorem cf32 : cfun Try.prog 32 = some c32 := by kernel_rfl



/-- The first n bits set, word k of it. -/
def allW (n k : Nat) : Nat := if n - 64 * k < 64 then 2 ^ (n - 64 * k) - 1 else 18446744073709551615
def allR (n : Int) : List Nat := (List.range (newR n).length).map (allW n.toNat)
theorem allW_lt (n k : Nat) : allW n k < 18446744073709551616 := by
  unfold allW
  split
  · rename_i h
    have : 2 ^ (n - 64 * k) < 18446744073709551616 := Nat.lt_of_lt_of_eq (Nat.pow_lt_pow_right (n := 64) (by omega) (by omega)) (by rfl)
    omega
  · omega
theorem allR_length (n : Int) : (allR n).length = (newR n).length := by simp [allR]
theorem allR_lt (n : Int) : ∀ w ∈ allR n, w < 18446744073709551616 := by
  intro w hw
  obtain ⟨k, _, rfl⟩ := List.mem_map.1 hw
  exact allW_lt _ _
/-- The words that have been laid. -/
def allTo (n q k : Nat) : List Nat := (List.range k).map (allW n) ++ List.replicate (q - k) 0
theorem allTo_length {n q k : Nat} (h : k ≤ q) : (allTo n q k).length = q := by simp [allTo]; omega
theorem allTo_set {n q k : Nat} (h : k < q) : (allTo n q k).set k (allW n k) = allTo n q (k + 1) := by
  unfold allTo
  have hl : ((List.range k).map (allW n)).length = k := by simp
  rw [List.set_append_right _ _ (by omega), hl, Nat.sub_self, show q - k = (q - (k + 1)) + 1 by omega, List.replicate_succ, List.set_cons_zero, List.range_succ, List.map_append]
  simp

theorem all_fc (h : Heap) (n : Int) (h0 : -9223372036854775808 ≤ n) (h1 : n < 9223372036854775808) :
    FC Try.prog 23 [.int .i64 n] h (NewSl h (u64s (allR n)) (newR n).length) := by
  refine FC.goes cf23 ?_; simp only [c23]; simp only [List.length_cons, List.length_nil, Nat.reduceAdd, Nat.reduceSub, List.replicate_succ, List.replicate_zero, List.cons_append, List.nil_append]
  simp (disch := first | omega | (simp only [List.length_append, List.length_cons, List.length_nil]; omega)) only [c23r0, c23r1, c23r2, c23r3, c23r4, c23r5, c23r6, c23r7, c23r8, c23r9, c23l10, c23r11, go_sem, ↓reduceIte, reduceCtorEq, Nat.reduceAdd, Nat.reduceSub, Nat.reducePow, Nat.reduceMul, Nat.reduceEqDiff, Nat.reduceLT, Nat.reduceLeDiff, Int.reduceToNat, Int.reduceLT, Int.reduceLE, Int.reduceEq, Int.reduceNeg, Int.reduceAdd, Int.reduceSub, Int.reduceMul]
  refine gfc_of (new_fc _ n h0 h1) ?_
  rintro d h' (⟨rfl, hc, hn0, rfl⟩ | ⟨rfl, rfl⟩)
  · simp (disch := first | omega | (simp only [List.length_append, List.length_cons, List.length_nil]; omega)) only [go_sem, ↓reduceIte, reduceCtorEq, Nat.reduceAdd, Nat.reduceSub, Nat.reducePow, Nat.reduceMul, Nat.reduceEqDiff, Nat.reduceLT, Nat.reduceLeDiff, Int.reduceToNat, Int.reduceLT, Int.reduceLE, Int.reduceEq, Int.reduceNeg, Int.reduceAdd, Int.reduceSub, Int.reduceMul]
    refine loop_to 0 (fun k st => ∃ (j : Nat → D), st = ⟨(.int .i64 n :: j 1 :: j 2 :: .nils :: j 4 :: j 5 :: j 6 :: j 7 :: j 8 :: .int .i64 0 :: .int .i64 0 :: j 11 :: j 12 :: j 13 :: j 14 :: j 15 :: j 16 :: j 17 :: j 18 :: j 19 :: j 20 :: j 21 :: j 22 :: j 23 :: j 24 :: j 25 :: j 26 :: j 27 :: j 28 :: j 29 :: j 30 :: []), h'⟩) (junk rfl) ?_
    rintro k st hk ⟨j, rfl⟩
    simp (disch := first | omega | (simp only [List.length_append, List.length_cons, List.length_nil]; omega)) only [c23r0, c23r1, c23r2, c23r3, c23r4, c23r5, c23r6, c23r7, c23r8, c23r9, c23l10, c23r11, go_sem, ↓reduceIte, reduceCtorEq, Nat.reduceAdd, Nat.reduceSub, Nat.reducePow, Nat.reduceMul, Nat.reduceEqDiff, Nat.reduceLT, Nat.reduceLeDiff, Int.reduceToNat, Int.reduceLT, Int.reduceLE, Int.reduceEq, Int.reduceNeg, Int.reduceAdd, Int.reduceSub, Int.reduceMul]
    have : allR n = [] := List.length_eq_zero_iff.1 (by rw [allR_length]; exact hn0)
    rw [this, hn0]
    exact FinOk.all (.inl ⟨rfl, rfl, rfl, rfl⟩)
  · have hq := newR_len n
    generalize hqq : (newR n).length = q at *
    have hn : 0 < q → ∃ m : Nat, n = (m : Int) ∧ q = (m + 63) / 64 := by
      intro h
      unfold newR at hqq
      split at hqq
      · simp at hqq; omega
      · obtain ⟨m, rfl⟩ := Int.eq_ofNat_of_zero_le (by omega : 0 ≤ n)
        rw [List.length_replicate] at hqq
        exact ⟨m, rfl, hqq.symm⟩
    have hz : u64s (newR n) = u64s (allTo n.toNat q 0) := by
      congr 1
      unfold newR at hqq ⊢
      split at hqq
      · rename_i hc
        rw [if_pos hc]
        simp at hqq
        subst hqq
        rfl
      · rename_i hc
        rw [if_neg hc]
        rw [List.length_replicate] at hqq
        rw [hqq]; simp [allTo]
    rw [hz]
    simp (disch := first | omega | (simp only [List.length_append, List.length_cons, List.length_nil]; omega)) only [go_sem, ↓reduceIte, reduceCtorEq, Nat.reduceAdd, Nat.reduceSub, Nat.reducePow, Nat.reduceMul, Nat.reduceEqDiff, Nat.reduceLT, Nat.reduceLeDiff, Int.reduceToNat, Int.reduceLT, Int.reduceLE, Int.reduceEq, Int.reduceNeg, Int.reduceAdd, Int.reduceSub, Int.reduceMul]
    refine loop_to q (fun k st => ∃ (j : Nat → D), st = ⟨(.int .i64 n :: j 1 :: j 2 :: .own h.length q :: j 4 :: j 5 :: j 6 :: j 7 :: j 8 :: .int .i64 (q : Int) :: .int .i64 (k : Int) :: j 11 :: j 12 :: j 13 :: j 14 :: j 15 :: j 16 :: j 17 :: j 18 :: j 19 :: j 20 :: j 21 :: j 22 :: j 23 :: j 24 :: j 25 :: j 26 :: j 27 :: j 28 :: j 29 :: j 30 :: []), h ++ [.grow 1 (u64s (allTo n.toNat q k)) q]⟩) (junk rfl) ?_
    rintro k st hk ⟨j, rfl⟩
    by_cases hkq : k < q
    · obtain ⟨m, rfl, hqm⟩ := hn (by omega)
      have hkq' : (k : Int) < q := by omega
      have hm : q = (m + 63) / 64 := hqm
      have e0 : ((m : Int)).toNat = m := rfl
      rw [e0]
      have hl : (u64s (allTo m q k)).length = q := by rw [u64s_length, allTo_length (by omega)]
      have e1 : IntKind.i64.wrap ((k : Int) * 64) = ((64 * k : Nat) : Int) := by rw [w_i64 (by omega) (by omega)]; omega
      have e2 : IntKind.i64.wrap ((m : Int) - ((64 * k : Nat) : Int)) = ((m - 64 * k : Nat) : Int) := by rw [w_i64 (by omega) (by omega)]; omega
      have e3 : IntKind.i64.wrap ((k : Int) + 1) = ((k + 1 : Nat) : Int) := by rw [w_i64 (by omega) (by omega)]; omega
      by_cases hs : m - 64 * k < 64
      · have hs' : ((m - 64 * k : Nat) : Int) < 64 := by omega
        have e4 : IntKind.u64.wrap ((m - 64 * k : Nat) : Int) = ((m - 64 * k : Nat) : Int) := w_u64 (by omega) (by omega)
        have hp : 2 ^ (m - 64 * k) < 18446744073709551616 := Nat.lt_of_lt_of_eq (Nat.pow_lt_pow_right (n := 64) (by omega) (by omega)) (by rfl)
        have hp1 : 0 < 2 ^ (m - 64 * k) := Nat.pos_of_ne_zero (by simp)
        have a1 : arith .shl (.int .u64 1) (.int .u64 ((m - 64 * k : Nat) : Int)) = some (.int .u64 ((2 ^ (m - 64 * k) : Nat) : Int)) := by
          have := shl_u64 (x := 1) (k' := .u64) (b := ((m - 64 * k : Nat) : Int)) (by omega) (by omega)
          rw [Nat.one_mul, Int.toNat_natCast, w_u64 (Int.natCast_nonneg _) (Int.ofNat_lt.2 hp)] at this
          exact this
        have hv : allW m k = 2 ^ (m - 64 * k) - 1 := by unfold allW; rw [if_pos hs]
        generalize hx : 2 ^ (m - 64 * k) = x at *
        have a2 : IntKind.u64.wrap ((x : Int) - 1) = ((x - 1 : Nat) : Int) := by rw [w_u64 (by omega) (by omega)]; omega
        simp (disch := first | omega | (simp only [List.length_append, List.length_cons, List.length_nil]; omega)) only [c23r0, c23r1, c23r2, c23r3, c23r4, c23r5, c23r6, c23r7, c23r8, c23r9, c23l10, c23r11, hkq', e1, e2, e3, hs', e4, a1, a2, hl, List.length_set, List.set_set, go_sem, ↓reduceIte, reduceCtorEq, Nat.reduceAdd, Nat.reduceSub, Nat.reducePow, Nat.reduceMul, Nat.reduceEqDiff, Nat.reduceLT, Nat.reduceLeDiff, Int.reduceToNat, Int.reduceLT, Int.reduceLE, Int.reduceEq, Int.reduceNeg, Int.reduceAdd, Int.reduceSub, Int.reduceMul]
        refine ⟨hkq, ?_⟩
        rw [← hv, ← u64s_set, allTo_set hkq]
        exact junk rfl
      · have hs' : ¬ ((m - 64 * k : Nat) : Int) < 64 := by omega
        have hv : allW m k = 18446744073709551615 := by unfold allW; rw [if_neg hs]
        simp (disch := first | omega | (simp only [List.length_append, List.length_cons, List.length_nil]; omega)) only [c23r0, c23r1, c23r2, c23r3, c23r4, c23r5, c23r6, c23r7, c23r8, c23r9, c23l10, c23r11, hkq', e1, e2, e3, hs', hl, List.length_set, List.set_set, go_sem, ↓reduceIte, reduceCtorEq, Nat.reduceAdd, Nat.reduceSub, Nat.reducePow, Nat.reduceMul, Nat.reduceEqDiff, Nat.reduceLT, Nat.reduceLeDiff, Int.reduceToNat, Int.reduceLT, Int.reduceLE, Int.reduceEq, Int.reduceNeg, Int.reduceAdd, Int.reduceSub, Int.reduceMul]
        refine ⟨hkq, ?_⟩
        have : (D.int .u64 18446744073709551615) = D.int .u64 ((allW m k : Nat) : Int) := by rw [hv]; rfl
        rw [this, ← u64s_set, allTo_set hkq]
        exact junk rfl
    · have hkq' : ¬ (k : Int) < q := by omega
      have : k = q := by omega
      subst this
      simp (disch := first | omega | (simp only [List.length_append, List.length_cons, List.length_nil]; omega)) only [c23r0, c23r1, c23r2, c23r3, c23r4, c23r5, c23r6, c23r7, c23r8, c23r9, c23l10, c23r11, hkq', go_sem, ↓reduceIte, reduceCtorEq, Nat.reduceAdd, Nat.reduceSub, Nat.reducePow, Nat.reduceMul, Nat.reduceEqDiff, Nat.reduceLT, Nat.reduceLeDiff, Int.reduceToNat, Int.reduceLT, Int.reduceLE, Int.reduceEq, Int.reduceNeg, Int.reduceAdd, Int.reduceSub, Int.reduceMul]
      have : allTo n.toNat k k = allR n := by simp [allTo, allR, hqq]
      rw [this]
      exact FinOk.all (.inr ⟨rfl, rfl⟩)

/-! ### Count -/
def pc : Nat → Nat → Nat
  | _, 0 => 0
  | w, n + 1 => w % 2 + pc (w / 2) n
theorem pc_top : ∀ (n w : Nat), pc w (n + 1) = pc w n + w / 2 ^ n % 2
  | 0, w => by simp [pc]
  | n + 1, w => by
    rw [pc, pc_top n (w / 2), pc, Nat.div_div_eq_div_mul, Nat.pow_succ, Nat.mul_comm (2 ^ n) 2]
    omega
theorem pc_le : ∀ (n w : Nat), pc w n ≤ n
  | 0, _ => Nat.le_refl _
  | n + 1, w => by rw [pc]; have := pc_le n (w / 2); omega
theorem pc_zero : ∀ n, pc 0 n = 0
  | 0 => rfl
  | n + 1 => by rw [pc]; simp [pc_zero n]
theorem kern : ∀ (n w : Nat), w ≠ 0 → w < 2 ^ n → pc (w &&& (w - 1)) n + 1 = pc w n
  | 0, w, h0, h => by simp at h; omega
  | n + 1, w, h0, h => by
    have hm : (w &&& (w - 1)) % 2 = 0 := by
      have := Nat.and_mod_two_pow (a := w) (b := w - 1) (n := 1)
      rw [Nat.pow_one] at this
      rw [this]
      rcases Nat.mod_two_eq_zero_or_one w with e | e
      · rw [e]; simp
      · rw [show (w - 1) % 2 = 0 by omega]; simp
    have hd : (w &&& (w - 1)) / 2 = w / 2 &&& (w - 1) / 2 := Nat.and_div_two
    rw [pc, pc, hm, hd]
    rcases Nat.mod_two_eq_zero_or_one w with e | e
    · rw [show (w - 1) / 2 = w / 2 - 1 by omega]
      have := kern n (w / 2) (by omega) (by rw [Nat.pow_succ] at h; omega)
      omega
    · rw [show (w - 1) / 2 = w / 2 by omega, Nat.and_self]
      omega
theorem onesTo_pc (ws : List Nat) (k : Nat) : ∀ n, n ≤ 64 → (onesTo ws (64 * k + n)).length = (onesTo ws (64 * k)).length + pc (ws.getD k 0) n
  | 0, _ => by simp [pc]
  | n + 1, h => by
    have hb2 := Nat.mod_two_eq_zero_or_one (ws.getD k 0 / 2 ^ n)
    rw [show 64 * k + (n + 1) = (64 * k + n) + 1 by omega, onesTo_succ, List.length_append, onesTo_pc ws k n (by omega), pc_top, hasB_at (by omega)]
    generalize ws.getD k 0 / 2 ^ n % 2 = b at *
    by_cases e : b = 1
    · simp [e]; omega
    · have : b = 0 := by omega
      simp [this]

theorem count_fc (h : Heap) (row : D) (ws : List Nat) (s : SlOf h 1 row (u64s ws) ws.length) (hlen : ws.length ≤ 1048576) (hw : ∀ w ∈ ws, w < 18446744073709551616) :
    FC Try.prog 32 [row] h fun d h' => d = .int .i64 ((onesL ws).length : Int) ∧ h' = h := by
  have hle : ∀ n, (onesTo ws n).length ≤ n := fun n => by
    have := List.length_filter_le (hasB ws) (List.range n)
    simpa [onesTo] using this
  refine FC.goes cf32 ?_; simp only [c32]; simp only [List.length_cons, List.length_nil, Nat.reduceAdd, Nat.reduceSub, List.replicate_succ, List.replicate_zero, List.cons_append, List.nil_append]
  simp (disch := first | omega | (simp only [List.length_append, List.length_cons, List.length_nil]; omega)) only [c32r0, c32r1, c32r2, c32r3, c32r4, c32r5, c32r6, c32r7, c32l8, c32r9, c32l10, c32r11, s.lend, s.sort, go_sem, ↓reduceIte, reduceCtorEq, Nat.reduceAdd, Nat.reduceSub, Nat.reducePow, Nat.reduceMul, Nat.reduceEqDiff, Nat.reduceLT, Nat.reduceLeDiff, Int.reduceToNat, Int.reduceLT, Int.reduceLE, Int.reduceEq, Int.reduceNeg, Int.reduceAdd, Int.reduceSub, Int.reduceMul]
  refine loop_to ws.length (fun k st => ∃ (j : Nat → D), st = ⟨(row :: j 1 :: j 2 :: .int .i64 ((onesTo ws (64 * k)).length : Int) :: j 4 :: j 5 :: row :: .int .i64 (ws.length : Int) :: .int .i64 (k : Int) :: j 9 :: j 10 :: j 11 :: j 12 :: j 13 :: j 14 :: j 15 :: j 16 :: j 17 :: j 18 :: j 19 :: j 20 :: j 21 :: []), h⟩) (junk rfl) ?_
  rintro k st hk ⟨j, rfl⟩
  by_cases hkn : k < ws.length
  · have hkn' : (k : Int) < ws.length := by omega
    obtain ⟨p, cs, e1, e2, e3⟩ := s.elem (k := .i64) (i := (k : Int)) (by omega) (by omega)
    have e4 := e3 0 (by omega)
    rw [show ((k : Int).toNat * 1 + 0) = k by omega, u64s_get hkn] at e4
    have hwk : ws.getD k 0 < 18446744073709551616 := hw _ (by simp [List.getD_eq_getElem?_getD, List.getElem?_eq_getElem hkn])
    have hpc := onesTo_pc ws k 64 (Nat.le_refl _)
    have hpl := pc_le 64 (ws.getD k 0)
    have hcl := hle (64 * k)
    have e5 : IntKind.i64.wrap ((k : Int) + 1) = ((k + 1 : Nat) : Int) := by rw [w_i64 (by omega) (by omega)]; omega
    generalize hwd : ws.getD k 0 = w at *
    generalize hc : (onesTo ws (64 * k)).length = c at *
    simp (disch := first | omega | (simp only [List.length_append, List.length_cons, List.length_nil]; omega)) only [c32r0, c32r1, c32r2, c32r3, c32r4, c32r5, c32r6, c32r7, c32l8, c32r9, c32l10, c32r11, hkn', e1, e2, e4, go_sem, ↓reduceIte, reduceCtorEq, Nat.reduceAdd, Nat.reduceSub, Nat.reducePow, Nat.reduceMul, Nat.reduceEqDiff, Nat.reduceLT, Nat.reduceLeDiff, Int.reduceToNat, Int.reduceLT, Int.reduceLE, Int.reduceEq, Int.reduceNeg, Int.reduceAdd, Int.reduceSub, Int.reduceMul]
    refine loop_to (pc w 64) (fun m st => ∃ (v : Nat), v < 18446744073709551616 ∧ m + pc v 64 = pc w 64 ∧ ∃ (j : Nat → D), st = ⟨(row :: j 1 :: j 2 :: .int .i64 ((c + m : Nat) : Int) :: j 4 :: .int .u64 (v : Int) :: row :: .int .i64 (ws.length : Int) :: .int .i64 (k : Int) :: j 9 :: j 10 :: j 11 :: j 12 :: j 13 :: j 14 :: j 15 :: j 16 :: j 17 :: j 18 :: j 19 :: j 20 :: j 21 :: []), h⟩) ⟨w, hwk, by omega, junk rfl⟩ ?_
    rintro m st hm ⟨v, hv, hmv, j, rfl⟩
    by_cases hv0 : v = 0
    · have hv0' : (v : Int) = 0 := by omega
      simp (disch := first | omega | (simp only [List.length_append, List.length_cons, List.length_nil]; omega)) only [c32r0, c32r1, c32r2, c32r3, c32r4, c32r5, c32r6, c32r7, c32l8, c32r9, c32l10, c32r11, hv0', e5, go_sem, ↓reduceIte, reduceCtorEq, Nat.reduceAdd, Nat.reduceSub, Nat.reducePow, Nat.reduceMul, Nat.reduceEqDiff, Nat.reduceLT, Nat.reduceLeDiff, Int.reduceToNat, Int.reduceLT, Int.reduceLE, Int.reduceEq, Int.reduceNeg, Int.reduceAdd, Int.reduceSub, Int.reduceMul]
      refine ⟨hkn, ?_⟩
      rw [hv0, pc_zero] at hmv
      rw [show 64 * (k + 1) = 64 * k + 64 by omega, hpc, ← hmv, Nat.add_zero]
      exact junk rfl
    · have hv0' : ¬ (v : Int) = 0 := by omega
      have hk := kern 64 v hv0 (by omega)
      have e6 : IntKind.i64.wrap (((c + m : Nat) : Int) + 1) = ((c + (m + 1) : Nat) : Int) := by rw [w_i64 (by omega) (by omega)]; omega
      have e7 : IntKind.u64.wrap ((v : Int) - 1) = ((v - 1 : Nat) : Int) := by rw [w_u64 (by omega) (by omega)]; omega
      have a1 := and_u64 (x := v) (y := v - 1) hv (by omega)
      simp (disch := first | omega | (simp only [List.length_append, List.length_cons, List.length_nil]; omega)) only [c32r0, c32r1, c32r2, c32r3, c32r4, c32r5, c32r6, c32r7, c32l8, c32r9, c32l10, c32r11, hv0', e6, e7, a1, go_sem, ↓reduceIte, reduceCtorEq, Nat.reduceAdd, Nat.reduceSub, Nat.reducePow, Nat.reduceMul, Nat.reduceEqDiff, Nat.reduceLT, Nat.reduceLeDiff, Int.reduceToNat, Int.reduceLT, Int.reduceLE, Int.reduceEq, Int.reduceNeg, Int.reduceAdd, Int.reduceSub, Int.reduceMul]
      refine ⟨by omega, v &&& (v - 1), Nat.lt_of_le_of_lt Nat.and_le_left hv, by omega, junk rfl⟩
  · have hkn' : ¬ (k : Int) < ws.length := by omega
    have : k = ws.length := by omega
    subst this
    simp (disch := first | omega | (simp only [List.length_append, List.length_cons, List.length_nil]; omega)) only [c32r0, c32r1, c32r2, c32r3, c32r4, c32r5, c32r6, c32r7, c32l8, c32r9, c32l10, c32r11, hkn', go_sem, ↓reduceIte, reduceCtorEq, Nat.reduceAdd, Nat.reduceSub, Nat.reducePow, Nat.reduceMul, Nat.reduceEqDiff, Nat.reduceLT, Nat.reduceLeDiff, Int.reduceToNat, Int.reduceLT, Int.reduceLE, Int.reduceEq, Int.reduceNeg, Int.reduceAdd, Int.reduceSub, Int.reduceMul]
    exact FinOk.all ⟨rfl, rfl⟩
end Go.Proofs
