/-
  Own work. The walk of wide.Div: of any number of 128 bits, by any number of 64 bits that is not 0.
-/
import Derived.Test.YtagklimaiognnaaWa
namespace Go.Proofs
open Go Go.Ytagklimaiognnaa
set_option linter.unusedVariables false
set_option linter.unusedSimpArgs false
set_option maxRecDepth 10000

/-! ### weighbridge/wide.Div, params 2 -/
def c70r0 : List AStm := [.op (some 2) none (.box (.t 0)),
    .op (some 4) none (.alloc [(.int .u64 0), (.int .u64 0)]),
    .op (some 5) none (.mv (.c (.int .u64 0)))]
def c70r1 : List AStm := [.op (some 9) none (.mv (.t 1)),
    .op (some 10) none (.bin .eql (.t 9) (.c (.int .u64 0)))]
def c70r2 : List AStm := [.op (some 11) none (.build [(.int .u64 0), (.int .u64 0)] []),
    .op none none (.store 2 (.t 4) (.t 11)),
    .op (some 5) none (.mv (.c (.int .u64 0)))]
def c70r3 : List AStm := [.op (some 12) none (.faddr 0 (.t 2)),
    .op (some 13) none (.load none (.t 12)),
    .op (some 14) none (.mv (.t 1)),
    .op (some 15) none (.bin .quo (.t 13) (.t 14)),
    .op (some 16) none (.build [(.int .u64 0), (.int .u64 0)] [(0, 1, (.t 15))]),
    .op (some 6) none (.alloc [(.int .u64 0), (.int .u64 0)]),
    .op none none (.store 2 (.t 6) (.t 16))]
def c70r4 : List AStm := [.op (some 17) none (.faddr 0 (.t 2)),
    .op (some 18) none (.load none (.t 17)),
    .op (some 19) none (.mv (.t 1)),
    .op (some 20) none (.bin .rem (.t 18) (.t 19)),
    .op (some 21) none (.build [(.int .u64 0), (.int .u64 0)] [(1, 1, (.t 20))]),
    .op (some 7) none (.alloc [(.int .u64 0), (.int .u64 0)]),
    .op none none (.store 2 (.t 7) (.t 21))]
def c70r5 : List AStm := [.op (some 8) none (.mv (.c (.int .i64 63)))]
def c70r6 : List AStm := [.op (some 22) none (.mv (.t 8)),
    .op (some 23) none (.bin .geq (.t 22) (.c (.int .i64 0)))]
def c70r7 : List AStm := [.op (some 26) none (.load (some 2) (.t 7)),
    .op (some 27) none (.faddr 1 (.t 2)),
    .op (some 28) none (.load none (.t 27)),
    .op (some 29) none (.mv (.t 8)),
    .op (some 30) none (.conv .u64 (.t 29)),
    .op (some 31) none (.bin .shr (.t 28) (.t 30)),
    .op (some 32) none (.bin .and (.t 31) (.c (.int .u64 1))),
    .call (some 33) none (.c (.fn (.func 81) [] [])) [(.t 26), (.t 32)],
    .op none none (.store 2 (.t 7) (.t 33))]
def c70r8 : List AStm := [.op (some 34) none (.faddr 1 (.t 6)),
    .op (some 35) none (.load none (.t 34)),
    .op (some 36) none (.bin .shl (.t 35) (.c (.int .u64 1))),
    .op (some 37) none (.faddr 1 (.t 6)),
    .op none none (.store 1 (.t 37) (.t 36))]
def c70r9 : List AStm := []
def c70r10 : List AStm := [.op (some 38) none (.load (some 2) (.t 7)),
    .op (some 39) none (.mv (.t 1)),
    .callG (some 40) none (.c (.fn (.func 50) [] [])) [(.t 39)],
    .call (some 41) none (.c (.fn (.func 82) [] [])) [(.t 38), (.t 40)],
    .op (some 42) none (.un .not (.t 41))]
def c70r11 : List AStm := [.op (some 44) none (.load (some 2) (.t 7)),
    .op (some 45) none (.mv (.t 1)),
    .call (some 46) none (.c (.fn (.func 50) [] [])) [(.t 45)],
    .call (some 47) none (.c (.fn (.func 83) [] [])) [(.t 44), (.t 46)],
    .op (some 43) none (.mv (.t 47)),
    .op (some 48) none (.ext (.t 43) 0),
    .op (some 49) none (.ext (.t 43) 1),
    .op none none (.store 2 (.t 7) (.t 48))]
def c70r12 : List AStm := []
def c70r13 : List AStm := [.op (some 50) none (.faddr 1 (.t 6)),
    .op (some 51) none (.load none (.t 50)),
    .op (some 52) none (.bin .or (.t 51) (.c (.int .u64 1))),
    .op (some 53) none (.faddr 1 (.t 6)),
    .op none none (.store 1 (.t 53) (.t 52))]
def c70r14 : List AStm := [.op (some 24) none (.mv (.t 8)),
    .op (some 25) none (.bin .sub (.t 24) (.c (.int .i64 1))),
    .op (some 8) none (.mv (.t 25))]
def c70l15 : AC := .seq (.seq (.reg c70r6) (.cond (.t 23) (.skip) (.exit 0))) (.seq (.block 1 (.seq (.reg c70r7) (.seq (.reg c70r8) (.seq (.dreg c70r9 c70r10) (.cond (.t 42) (.seq (.dreg c70r11 c70r12) (.reg c70r13)) (.skip)))))) (.reg c70r14))
def c70r16 : List AStm := [.op (some 54) none (.load (some 2) (.t 6)),
    .op (some 55) none (.faddr 1 (.t 7)),
    .op (some 56) none (.load none (.t 55)),
    .op none none (.store 2 (.t 4) (.t 54)),
    .chk 55 none (.faddr 1 (.t 7)),
    .chk 56 none (.load none (.t 55)),
    .op (some 5) none (.mv (.t 56))]
def c70r17 : List AStm := []
def c70 : CF := ⟨.seq (.reg c70r0) (.seq (.seq (.reg c70r1) (.cond (.t 10) (.seq (.reg c70r2) (.ret)) (.skip))) (.seq (.reg c70r3) (.seq (.reg c70r4) (.seq (.seq (.reg c70r5) (.block 0 (.loop c70l15))) (.seq (.dreg c70r16 c70r17) (.ret)))))), [.cell 4 (some 2), .tmp 5], 57⟩
theorem cf70 : cfun Try.prog 70 = some c70 := by kernel_rfl



theorem lo_bit {n k : Nat} (hk : k < 64) : n % 18446744073709551616 / 2 ^ k % 2 = n / 2 ^ k % 2 := by
  have h := Nat.testBit_mod_two_pow n 64 k
  have e : (2 : Nat) ^ 64 = 18446744073709551616 := rfl
  rw [e, Nat.testBit_eq_decide_div_mod_eq, Nat.testBit_eq_decide_div_mod_eq] at h
  simp only [hk, decide_true, Bool.true_and, decide_eq_decide] at h
  omega
theorem halfD {m i : Nat} : m / 2 ^ (i + 1) * 2 + m / 2 ^ i % 2 = m / 2 ^ i := by
  rw [Nat.pow_succ, ← Nat.div_div_eq_div_mul]; omega
theorem wide_lo {n : Nat} (hn : n < 18446744073709551616) : wideD n = [.int .u64 0, .int .u64 (n : Int)] := by
  simp only [wideD, Nat.div_eq_of_lt hn, Nat.mod_eq_of_lt hn]; rfl
theorem mul2_or (x y : Nat) (hy : y < 2) : x * 2 ||| y = x * 2 + y := by
  rw [Nat.mul_comm]
  exact (Nat.two_pow_add_eq_or_of_lt (i := 1) (by omega) x).symm
theorem dbl_mod {q b k : Nat} (hb : b < 2) : (2 * q + b) % 2 ^ (k + 1) = 2 * (q % 2 ^ k) + b := by
  have h2 : 0 < 2 ^ k := Nat.two_pow_pos k
  have hq := Nat.div_add_mod q (2 ^ k)
  have hm := Nat.mod_lt q h2
  have e : 2 * q + b = 2 ^ (k + 1) * (q / 2 ^ k) + (2 * (q % 2 ^ k) + b) := by
    rw [Nat.pow_succ, Nat.mul_assoc, Nat.mul_left_comm]
    omega
  rw [e, Nat.mul_add_mod, Nat.mod_eq_of_lt]
  rw [Nat.pow_succ]; omega

theorem pdiv_fc (h : Heap) (a n : Nat) (ha : a < 340282366920938463463374607431768211456) (hn : n < 18446744073709551616) (h0 : 0 < n) :
    FC Try.prog 70 [.agg (wideD a), .int .u64 (n : Int)] h fun d h' => d = .tup [.agg (wideD (a / n)), .int .u64 ((a % n : Nat) : Int)] ∧ h' = h := by
  have e0 : ¬ (n : Int) = 0 := by omega
  have hhi : a / 18446744073709551616 < 18446744073709551616 := by omega
  have q1 := ar_quoN (k := .u64) (x := a / 18446744073709551616) (y := n) (by omega) (w_u64 (Int.natCast_nonneg _) (by have := Nat.div_le_self (a / 18446744073709551616) n; omega))
  have q2 := ar_remN (k := .u64) (x := a / 18446744073709551616) (y := n) (by omega)
  have hr0 : a / 18446744073709551616 % n < n := Nat.mod_lt _ h0
  refine FC.goes cf70 ?_; simp only [c70]; simp only [List.length_cons, List.length_nil, Nat.reduceAdd, Nat.reduceSub, List.replicate_succ, List.replicate_zero, List.cons_append, List.nil_append]
  have w0 : (wideD a)[0]? = some (.int .u64 ((a / 18446744073709551616 : Nat) : Int)) := rfl
  simp (disch := first | omega | (simp only [List.length_append, List.length_cons, List.length_nil]; omega)) only [c70r0, c70r1, c70r2, c70r3, c70r4, c70r5, c70r6, c70r7, c70r8, c70r9, c70r10, c70r11, c70r12, c70r13, c70r14, c70l15, c70r16, c70r17, e0, wideD_one, wideD_len, w0, q1, q2, fillD, splice0, go_sem, fill_c, ↓reduceIte, reduceCtorEq, Nat.reduceAdd, Nat.reduceSub, Nat.reducePow, Nat.reduceMul, Nat.reduceEqDiff, Nat.reduceLT, Nat.reduceLeDiff, Int.reduceToNat, Int.reduceLT, Int.reduceLE, Int.reduceEq, Int.reduceNeg, Int.reduceAdd, Int.reduceSub, Int.reduceMul]
  refine loop_to 64 (fun k st => ∃ (j : Nat → D), st = ⟨(j 0 :: .int .u64 (n : Int) :: .ref h.length 0 :: j 3 :: .ref (h.length + 1) 0 :: .int .u64 0 :: .ref (h.length + 2) 0 :: .ref (h.length + 3) 0 :: .int .i64 (63 - (k : Int)) :: j 9 :: j 10 :: j 11 :: j 12 :: j 13 :: j 14 :: j 15 :: j 16 :: j 17 :: j 18 :: j 19 :: j 20 :: j 21 :: j 22 :: j 23 :: j 24 :: j 25 :: j 26 :: j 27 :: j 28 :: j 29 :: j 30 :: j 31 :: j 32 :: j 33 :: j 34 :: j 35 :: j 36 :: j 37 :: j 38 :: j 39 :: j 40 :: j 41 :: j 42 :: j 43 :: j 44 :: j 45 :: j 46 :: j 47 :: j 48 :: j 49 :: j 50 :: j 51 :: j 52 :: j 53 :: j 54 :: j 55 :: j 56 :: []), h ++ [.box (wideD a), .box [.int .u64 0, .int .u64 0],
      .box [.int .u64 ((a / 18446744073709551616 / n : Nat) : Int), .int .u64 ((a / 2 ^ (64 - k) / n % 2 ^ k : Nat) : Int)], .box (wideD (a / 2 ^ (64 - k) % n))]⟩) (by
    rw [show a / 2 ^ (64 - 0) = a / 18446744073709551616 from rfl, wide_lo (show a / 18446744073709551616 % n < 18446744073709551616 by omega), Nat.pow_zero, Nat.mod_one]; exact junk rfl) ?_
  rintro k st hk ⟨j, rfl⟩
  by_cases hlt : k < 64
  · obtain ⟨i, hi, hki⟩ : ∃ i, i < 64 ∧ k = 63 - i := ⟨63 - k, by omega, by omega⟩
    subst hki
    have c1 : (63 : Int) - ((63 - i : Nat) : Int) = (i : Int) := by omega
    have c2 : 64 - (63 - i) = i + 1 := by omega
    have c3 : 64 - (63 - i + 1) = i := by omega
    have c4 : (63 : Int) - ((63 - i + 1 : Nat) : Int) = (i : Int) - 1 := by omega
    have c5 : 63 - i < 64 := by omega
    simp only [c1, c2, c3, c4, c5, true_and]
    have g1 := halfD (m := a) (i := i)
    have e1 : (0 : Int) ≤ (i : Int) := by omega
    have wi : IntKind.u64.wrap (i : Int) = (i : Int) := w_u64 (by omega) (by omega)
    have wj : IntKind.i64.wrap ((i : Int) - 1) = (i : Int) - 1 := w_i64 (by omega) (by omega)
    have sh := shr_u64 (x := a % 18446744073709551616) (k' := .u64) (b := (i : Int)) (by omega) (by omega)
    rw [show ((i : Int)).toNat = i by omega] at sh
    have hlo : a % 18446744073709551616 / 2 ^ i < 18446744073709551616 := Nat.lt_of_le_of_lt (Nat.div_le_self _ _) (Nat.mod_lt _ (by omega))
    have an : arith .and (.int .u64 ((a % 18446744073709551616 / 2 ^ i : Nat) : Int)) (.int .u64 1) = some (.int .u64 ((a / 2 ^ i % 2 : Nat) : Int)) := by
      have := and_u64 (x := a % 18446744073709551616 / 2 ^ i) (y := 1) hlo (by omega)
      rw [Nat.and_one_is_mod, lo_bit hi] at this
      exact this
    have hR : a / 2 ^ (i + 1) % n < n := Nat.mod_lt _ h0
    have hbit : a / 2 ^ i % 2 < 2 := Nat.mod_lt _ (by omega)
    have hdm := Nat.div_add_mod (a / 2 ^ (i + 1)) n
    have hql : a / 2 ^ (i + 1) / n % 2 ^ (63 - i) < 2 ^ (63 - i) := Nat.mod_lt _ (Nat.two_pow_pos _)
    have hp : 2 ^ (63 - i) ≤ 2 ^ 63 := Nat.pow_le_pow_right (by omega) (by omega)
    have hdbl : ∀ b, b < 2 → (2 * (a / 2 ^ (i + 1) / n) + b) % 2 ^ (63 - i + 1) = 2 * (a / 2 ^ (i + 1) / n % 2 ^ (63 - i)) + b := fun b hb => dbl_mod hb
    generalize hRR : a / 2 ^ (i + 1) % n = R at *
    generalize hQQ : a / 2 ^ (i + 1) / n = QQ at *
    generalize hbb : a / 2 ^ i % 2 = bit at *
    generalize hqq : QQ % 2 ^ (63 - i) = q at *
    have hx : a / 2 ^ i = n * (2 * QQ) + (2 * R + bit) := by rw [← g1, ← hdm, Nat.mul_left_comm]; omega
    have low : 2 * R + bit < n → a / 2 ^ i / n = 2 * QQ ∧ a / 2 ^ i % n = 2 * R + bit := fun hlt => by
      rw [hx]
      exact ⟨by rw [Nat.mul_add_div h0, Nat.div_eq_of_lt hlt, Nat.add_zero], by rw [Nat.mul_add_mod, Nat.mod_eq_of_lt hlt]⟩
    have high : n ≤ 2 * R + bit → a / 2 ^ i / n = 2 * QQ + 1 ∧ a / 2 ^ i % n = 2 * R + bit - n := fun hge => by
      have : n * (2 * QQ) + (2 * R + bit) = n * (2 * QQ + 1) + (2 * R + bit - n) := by rw [Nat.mul_add, Nat.mul_one]; omega
      rw [hx, this]
      have hl : 2 * R + bit - n < n := by omega
      exact ⟨by rw [Nat.mul_add_div h0, Nat.div_eq_of_lt hl, Nat.add_zero], by rw [Nat.mul_add_mod, Nat.mod_eq_of_lt hl]⟩
    have sl : arith .shl (.int .u64 (q : Int)) (.int .u64 1) = some (.int .u64 ((q * 2 : Nat) : Int)) := by
      rw [shl_u64 (by omega) (by omega), wrap64]
      rw [show q * 2 ^ (1 : Int).toNat = q * 2 from rfl, Nat.mod_eq_of_lt (by omega)]
    have so : arith .or (.int .u64 ((q * 2 : Nat) : Int)) (.int .u64 1) = some (.int .u64 ((q * 2 + 1 : Nat) : Int)) := by
      have := or_u64 (x := q * 2) (y := 1) (by omega) (by omega)
      rw [mul2_or _ _ (by omega)] at this
      exact this
    have w1 : (List.drop 1 (wideD a))[0]? = some (.int .u64 ((a % 18446744073709551616 : Nat) : Int)) := rfl
    simp (disch := first | omega | (simp only [List.length_append, List.length_cons, List.length_nil]; omega)) only [c70r0, c70r1, c70r2, c70r3, c70r4, c70r5, c70r6, c70r7, c70r8, c70r9, c70r10, c70r11, c70r12, c70r13, c70r14, c70l15, c70r16, c70r17, e1, wi, sh, an, tkw, wideD_len, w1, go_sem, fill_c, ↓reduceIte, reduceCtorEq, Nat.reduceAdd, Nat.reduceSub, Nat.reducePow, Nat.reduceMul, Nat.reduceEqDiff, Nat.reduceLT, Nat.reduceLeDiff, Int.reduceToNat, Int.reduceLT, Int.reduceLE, Int.reduceEq, Int.reduceNeg, Int.reduceAdd, Int.reduceSub, Int.reduceMul]
    refine gfc_of (twice_fc _ R bit (by omega) hbit) ?_
    rintro d h' ⟨rfl, e⟩
    rw [e]
    simp (disch := first | omega | (simp only [List.length_append, List.length_cons, List.length_nil]; omega)) only [c70r0, c70r1, c70r2, c70r3, c70r4, c70r5, c70r6, c70r7, c70r8, c70r9, c70r10, c70r11, c70r12, c70r13, c70r14, c70l15, c70r16, c70r17, wideD_len, wideD_one, spw2, sl, tkw, go_sem, fill_c, ↓reduceIte, reduceCtorEq, Nat.reduceAdd, Nat.reduceSub, Nat.reducePow, Nat.reduceMul, Nat.reduceEqDiff, Nat.reduceLT, Nat.reduceLeDiff, Int.reduceToNat, Int.reduceLT, Int.reduceLE, Int.reduceEq, Int.reduceNeg, Int.reduceAdd, Int.reduceSub, Int.reduceMul]
    refine xfc_of (pof_fc _ n hn) ?_
    rintro d h' ⟨rfl, e⟩
    refine ⟨⟨[], by rw [e, List.append_nil]⟩, ?_⟩
    rw [e]
    simp (disch := first | omega | (simp only [List.length_append, List.length_cons, List.length_nil]; omega)) only [go_sem, fill_c, ↓reduceIte, reduceCtorEq, Nat.reduceAdd, Nat.reduceSub, Nat.reducePow, Nat.reduceMul, Nat.reduceEqDiff, Nat.reduceLT, Nat.reduceLeDiff, Int.reduceToNat, Int.reduceLT, Int.reduceLE, Int.reduceEq, Int.reduceNeg, Int.reduceAdd, Int.reduceSub, Int.reduceMul]
    refine gfc_of (pless_fc _ (2 * R + bit) n (by omega) (by omega)) ?_
    rintro d h' ⟨rfl, e⟩
    rw [e]
    by_cases hlt2 : 2 * R + bit < n
    · obtain ⟨p1, p2⟩ := low hlt2
      have hd := hdbl 0 (by omega)
      rw [p1, p2, show 2 * QQ = 2 * QQ + 0 from rfl, hd, show 2 * q + 0 = q * 2 by omega]
      simp (disch := first | omega | (simp only [List.length_append, List.length_cons, List.length_nil]; omega)) only [hlt2, wj, go_sem, fill_c, ↓reduceIte, reduceCtorEq, Nat.reduceAdd, Nat.reduceSub, Nat.reducePow, Nat.reduceMul, Nat.reduceEqDiff, Nat.reduceLT, Nat.reduceLeDiff, Int.reduceToNat, Int.reduceLT, Int.reduceLE, Int.reduceEq, Int.reduceNeg, Int.reduceAdd, Int.reduceSub, Int.reduceMul]
      exact junk rfl
    · obtain ⟨p1, p2⟩ := high (by omega)
      have hd := hdbl 1 (by omega)
      rw [p1, p2, hd, show 2 * q + 1 = q * 2 + 1 by omega]
      simp (disch := first | omega | (simp only [List.length_append, List.length_cons, List.length_nil]; omega)) only [hlt2, wj, tkw, wideD_len, go_sem, fill_c, ↓reduceIte, reduceCtorEq, Nat.reduceAdd, Nat.reduceSub, Nat.reducePow, Nat.reduceMul, Nat.reduceEqDiff, Nat.reduceLT, Nat.reduceLeDiff, Int.reduceToNat, Int.reduceLT, Int.reduceLE, Int.reduceEq, Int.reduceNeg, Int.reduceAdd, Int.reduceSub, Int.reduceMul]
      refine kfc_of (pof_fc _ n hn) ?_
      simp (disch := first | omega | (simp only [List.length_append, List.length_cons, List.length_nil]; omega)) only [go_sem, fill_c, ↓reduceIte, reduceCtorEq, Nat.reduceAdd, Nat.reduceSub, Nat.reducePow, Nat.reduceMul, Nat.reduceEqDiff, Nat.reduceLT, Nat.reduceLeDiff, Int.reduceToNat, Int.reduceLT, Int.reduceLE, Int.reduceEq, Int.reduceNeg, Int.reduceAdd, Int.reduceSub, Int.reduceMul]
      refine kfc_of (psub_fc _ (2 * R + bit) n (by omega) (by omega)) ?_
      simp (disch := first | omega | (simp only [List.length_append, List.length_cons, List.length_nil]; omega)) only [wideD_len, wideD_one, spw2, so, wj, go_sem, fill_c, ↓reduceIte, reduceCtorEq, Nat.reduceAdd, Nat.reduceSub, Nat.reducePow, Nat.reduceMul, Nat.reduceEqDiff, Nat.reduceLT, Nat.reduceLeDiff, Int.reduceToNat, Int.reduceLT, Int.reduceLE, Int.reduceEq, Int.reduceNeg, Int.reduceAdd, Int.reduceSub, Int.reduceMul]
      exact junk rfl
  · obtain rfl : k = 64 := by omega
    have e1 : ¬ (0 : Int) ≤ 63 - ((64 : Nat) : Int) := by omega
    have r1 : a % n < 18446744073709551616 := by have := Nat.mod_lt a h0; omega
    have w1 : (List.drop 1 (wideD (a % n)))[0]? = some (.int .u64 ((a % n : Nat) : Int)) := by rw [wide_lo r1]; rfl
    have e2 : wideD (a / n) = [.int .u64 ((a / 18446744073709551616 / n : Nat) : Int), .int .u64 ((a / n % 18446744073709551616 : Nat) : Int)] := by
      unfold wideD; rw [Nat.div_div_eq_div_mul, Nat.div_div_eq_div_mul, Nat.mul_comm n]
    rw [e2]
    simp only [Nat.sub_self, Nat.pow_zero, Nat.div_one]
    simp (disch := first | omega | (simp only [List.length_append, List.length_cons, List.length_nil]; omega)) only [c70r0, c70r1, c70r2, c70r3, c70r4, c70r5, c70r6, c70r7, c70r8, c70r9, c70r10, c70r11, c70r12, c70r13, c70r14, c70l15, c70r16, c70r17, e1, wideD_len, w1, fillD, splice0, go_sem, fill_c, ↓reduceIte, reduceCtorEq, Nat.reduceAdd, Nat.reduceSub, Nat.reducePow, Nat.reduceMul, Nat.reduceEqDiff, Nat.reduceLT, Nat.reduceLeDiff, Int.reduceToNat, Int.reduceLT, Int.reduceLE, Int.reduceEq, Int.reduceNeg, Int.reduceAdd, Int.reduceSub, Int.reduceMul]
    exact FinOk.drop (.inl rfl) (by simp [underL, underD]) ⟨rfl, rfl⟩
end Go.Proofs
