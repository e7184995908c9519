/-
  Own work. The walk of wide.Text: a number's digits.
-/
import Derived.Test.YtodlpcoffmnmbaaWb
import Derived.Test.YtodlpcoffmnmbaaWc
namespace Go.Proofs
open Go Go.Ytodlpcoffmnmbaa
set_option linter.unusedVariables false
set_option linter.unusedSimpArgs false
set_option maxRecDepth 10000

/-! ### weighbridge/wide.Text, params 1 -/
def c69r0 : List AStm := [.op (some 1) none (.box (.t 0)),
    .op (some 2) none (.mv (.c (.str (bs []))))]
def c69r1 : List AStm := [.op (some 3) none (.mv (.c .nils))]
def c69r2 : List AStm := [.op (some 9) none (.load (some 2) (.t 1)),
    .call (some 10) none (.c (.fn (.func 91) [] [])) [(.t 9), (.c (.int .u64 1000000000000000000))],
    .op (some 8) none (.mv (.t 10)),
    .op (some 11) none (.ext (.t 8) 0),
    .op (some 12) none (.ext (.t 8) 1),
    .op (some 4) none (.alloc [(.int .u64 0), (.int .u64 0)]),
    .op none none (.store 2 (.t 4) (.t 11)),
    .op (some 5) none (.mv (.t 12))]
def c69r3 : List AStm := [.op (some 13) none (.load (some 2) (.t 4)),
    .op (some 14) none (.build [(.int .u64 0), (.int .u64 0)] []),
    .op (some 15) none (.eqa false [.ki, .ki] (.t 13) (.t 14)),
    .op (some 6) none (.mv (.t 15))]
def c69r4 : List AStm := [.op (some 16) none (.mv (.c (.int .i64 0)))]
def c69r5 : List AStm := [.op (some 17) none (.bin .lss (.t 16) (.c (.int .i64 18)))]
def c69r6 : List AStm := [.op (some 18) none (.mv (.t 16)),
    .op (some 7) none (.mv (.t 18))]
def c69r7 : List AStm := [.op (some 19) none (.mv (.t 6)),
    .op (some 20) none (.mv (.t 19)),
    .op (some 21) (some (20, true)) (.mv (.t 5)),
    .op (some 22) (some (20, true)) (.bin .eql (.t 21) (.c (.int .u64 0))),
    .op (some 23) none (.pick (.t 20) (.t 22) (.c (.bool false))),
    .op (some 24) none (.mv (.t 23)),
    .op (some 25) (some (24, true)) (.mv (.t 7)),
    .op (some 26) (some (24, true)) (.bin .gtr (.t 25) (.c (.int .i64 0))),
    .op (some 27) none (.pick (.t 24) (.t 26) (.c (.bool false)))]
def c69r8 : List AStm := [.op (some 28) none (.mv (.t 3)),
    .op (some 29) none (.mv (.t 5)),
    .op (some 30) none (.bin .rem (.t 29) (.c (.int .u64 10))),
    .op (some 31) none (.bin .add (.c (.int .u64 48)) (.t 30)),
    .op (some 32) none (.conv .u8 (.t 31)),
    .op (some 33) none (.bslice 1 [(.int .u8 0)] 1 [(0, 1, (.t 32))]),
    .op (some 34) none (.append false 1 1 (.t 28) (.t 33)),
    .op (some 3) none (.mv (.t 34))]
def c69r9 : List AStm := [.op (some 35) none (.mv (.t 5)),
    .op (some 36) none (.bin .quo (.t 35) (.c (.int .u64 10))),
    .op (some 5) none (.mv (.t 36))]
def c69r10 : List AStm := [.op (some 37) none (.bin .add (.t 16) (.c (.int .i64 1))),
    .op (some 16) none (.mv (.t 37))]
def c69l11 : AC := .seq (.reg c69r5) (.seq (.cond (.t 17) (.skip) (.exit 2)) (.seq (.block 3 (.seq (.reg c69r6) (.seq (.seq (.reg c69r7) (.cond (.t 27) (.exit 2) (.skip))) (.seq (.reg c69r8) (.reg c69r9))))) (.reg c69r10)))
def c69r12 : List AStm := [.op (some 38) none (.mv (.t 6))]
def c69r13 : List AStm := [.op (some 39) none (.load (some 2) (.t 4)),
    .op none none (.store 2 (.t 1) (.t 39))]
def c69l14 : AC := .block 1 (.seq (.reg c69r2) (.seq (.reg c69r3) (.seq (.seq (.reg c69r4) (.block 2 (.loop c69l11))) (.seq (.seq (.reg c69r12) (.cond (.t 38) (.exit 0) (.skip))) (.reg c69r13)))))
def c69r15 : List AStm := [.op (some 40) none (.mv (.t 3)),
    .call (some 41) none (.c (.fn (.func 92) [] [])) [(.t 40)]]
def c69r16 : List AStm := [.op (some 42) none (.mv (.t 3)),
    .op (some 43) none (.b2s (.t 42)),
    .op (some 2) none (.mv (.t 43))]
def c69 : CF := ⟨.seq (.reg c69r0) (.seq (.reg c69r1) (.seq (.block 0 (.loop c69l14)) (.seq (.reg c69r15) (.seq (.reg c69r16) (.ret))))), [.tmp 2], 44⟩
theorem cf69 : cfun Try.prog 69 = some c69 := by kernel_rfl



/-- The last m digits, the last one first. -/
def rdig (n m : Nat) : List UInt8 := (List.range m).map fun i => UInt8.ofNat (48 + n / 10 ^ i % 10)
theorem rdig_len (n m : Nat) : (rdig n m).length = m := by simp [rdig]
theorem rdig_snoc (n m : Nat) : rdig n (m + 1) = rdig n m ++ [UInt8.ofNat (48 + n / 10 ^ m % 10)] := by simp [rdig, List.range_succ]
theorem rdig_cons (n m : Nat) : rdig n (m + 1) = UInt8.ofNat (48 + n % 10) :: rdig (n / 10) m := by
  simp only [rdig, List.range_succ_eq_map, List.map_cons, List.map_map, Nat.pow_zero, Nat.div_one]
  congr 1
  apply List.map_congr_left
  intro i _
  simp only [Function.comp]
  rw [Nat.pow_succ, Nat.mul_comm, ← Nat.div_div_eq_div_mul]
theorem rdig_dec : ∀ (m n : Nat), 0 < m → n / 10 ^ m = 0 → (m = 1 ∨ ¬ n / 10 ^ (m - 1) = 0) → (rdig n m).reverse = decF n
  | 0, _, h, _, _ => by omega
  | 1, n, _, h1, _ => by
    have hn : n < 10 := by
      refine Nat.lt_of_not_le fun hge => ?_
      have : 1 ≤ n / 10 ^ 1 := (Nat.le_div_iff_mul_le (by omega)).2 (by omega)
      omega
    rw [rdig_cons, decF_lt hn, Nat.mod_eq_of_lt hn]; rfl
  | m + 2, n, _, h1, h2 => by
    have h3 : ¬ n / 10 ^ (m + 1) = 0 := by
      rcases h2 with h2 | h2
      · omega
      · exact h2
    have e : ∀ q, n / 10 ^ (q + 1) = n / 10 / 10 ^ q := fun q => by rw [Nat.pow_succ, Nat.mul_comm, ← Nat.div_div_eq_div_mul]
    have hn : ¬ n < 10 := by
      intro hlt
      apply h3
      rw [e, Nat.div_eq_of_lt hlt, Nat.zero_div]
    rw [rdig_cons, List.reverse_cons, rdig_dec (m + 1) (n / 10) (by omega) (by rw [← e]; exact h1) (.inr (by rw [Nat.add_sub_cancel, ← e]; exact h3)), ← decF_ge hn]
theorem chunk_dig {A i : Nat} (hi : i < 18) : A % 1000000000000000000 / 10 ^ i % 10 = A / 10 ^ i % 10 := by
  have e : (1000000000000000000 : Nat) = 10 ^ i * 10 ^ (18 - i) := by
    rw [← Nat.pow_add, show i + (18 - i) = 18 by omega]
  rw [e, Nat.mod_mul_right_div_self]
  refine Nat.mod_mod_of_dvd _ ?_
  rw [show 18 - i = (17 - i) + 1 by omega, Nat.pow_succ]
  exact Nat.dvd_mul_left ..
theorem wide_zero {q : Nat} (hq : q < 340282366920938463463374607431768211456) : eqCells [.ki, .ki] (wideD q) [.int .u64 0, .int .u64 0] = some (decide (q = 0)) := by
  simp only [wideD, eqCells, ek_i, Option.bind_some, Option.map_some, Bool.and_true]
  congr 1
  rw [Bool.eq_iff_iff]
  simp only [Bool.and_eq_true, beq_iff_eq, decide_eq_true_eq]
  omega

theorem ptext_fc (h : Heap) (n : Nat) (hn : n < 340282366920938463463374607431768211456) :
    FC Try.prog 69 [.agg (wideD n)] h fun d h' => d = .str (bs (decF n)) ∧ h' = h := by
  have npow : ∀ k, n / 10 ^ (18 * (k + 1)) = n / 10 ^ (18 * k) / 1000000000000000000 := fun k => by
    rw [Nat.mul_succ, Nat.pow_add, ← Nat.div_div_eq_div_mul]
  have nadd : ∀ k i, n / 10 ^ (18 * k + i) = n / 10 ^ (18 * k) / 10 ^ i := fun k i => by
    rw [Nat.pow_add, ← Nat.div_div_eq_div_mul]
  refine FC.goes cf69 ?_; simp only [c69]; simp only [List.length_cons, List.length_nil, Nat.reduceAdd, Nat.reduceSub, List.replicate_succ, List.replicate_zero, List.cons_append, List.nil_append]
  simp (disch := first | omega | (simp only [List.length_append, List.length_cons, List.length_nil]; omega)) only [c69r0, c69r1, c69r2, c69r3, c69r4, c69r5, c69r6, c69r7, c69r8, c69r9, c69r10, c69l11, c69r12, c69r13, c69l14, c69r15, c69r16, wideD_one, wideD_len, go_sem, fill_c, ↓reduceIte, reduceCtorEq, Nat.reduceAdd, Nat.reduceSub, Nat.reducePow, Nat.reduceMul, Nat.reduceEqDiff, Nat.reduceLT, Nat.reduceLeDiff, Int.reduceToNat, Int.reduceLT, Int.reduceLE, Int.reduceEq, Int.reduceNeg, Int.reduceAdd, Int.reduceSub, Int.reduceMul]
  refine loop_to 3 (fun k st => (k = 0 ∨ ¬ n / 10 ^ (18 * k) = 0) ∧ ∃ (d : D) (M : Heap), OutAt h.length (ofBytes (rdig n (18 * k))) (18 * k) d M ∧ M[0]? = some (.box (wideD (n / 10 ^ (18 * k)))) ∧
      ∃ j : Nat → D, st = ⟨(j 0 :: .ref h.length 0 :: .str (bs []) :: d :: j 4 :: j 5 :: j 6 :: j 7 :: j 8 :: j 9 :: j 10 :: j 11 :: j 12 :: j 13 :: j 14 :: j 15 :: j 16 :: j 17 :: j 18 :: j 19 :: j 20 :: j 21 :: j 22 :: j 23 :: j 24 :: j 25 :: j 26 :: j 27 :: j 28 :: j 29 :: j 30 :: j 31 :: j 32 :: j 33 :: j 34 :: j 35 :: j 36 :: j 37 :: j 38 :: j 39 :: j 40 :: j 41 :: j 42 :: j 43 :: []), h ++ M⟩) ⟨.inl rfl, .nils, [.box (wideD n)], .inl ⟨rfl, rfl, rfl⟩, by simp, junk rfl⟩ ?_
  rintro k st hk ⟨hk0, d, M, ho, hm0, j, rfl⟩
  have hk3 : k < 3 := by
    refine Nat.lt_of_not_le fun hge => ?_
    obtain rfl : k = 3 := by omega
    have h0 : n / 10 ^ (18 * 3) = 0 := Nat.div_eq_of_lt (by omega)
    rcases hk0 with h | h
    · omega
    · exact h h0
  have hA : n / 10 ^ (18 * k) < 340282366920938463463374607431768211456 := Nat.lt_of_le_of_lt (Nat.div_le_self _ _) hn
  have hnk := npow k
  have hna := nadd k
  generalize hAA : n / 10 ^ (18 * k) = A at *
  have hq : A / 1000000000000000000 < 340282366920938463463374607431768211456 := by omega
  have hr : A % 1000000000000000000 < 1000000000000000000 := Nat.mod_lt _ (by omega)
  have hqz := wide_zero hq
  have hcd : ∀ i, i < 18 → A % 1000000000000000000 / 10 ^ i % 10 = A / 10 ^ i % 10 := fun i hi => chunk_dig hi
  have hlast : A / 1000000000000000000 = 0 → A % 1000000000000000000 = A := fun h => by omega
  generalize hqq : A / 1000000000000000000 = q at *
  generalize hrr : A % 1000000000000000000 = rest at *
  simp (disch := first | omega | (simp only [List.length_append, List.length_cons, List.length_nil]; omega)) only [c69r0, c69r1, c69r2, c69r3, c69r4, c69r5, c69r6, c69r7, c69r8, c69r9, c69r10, c69l11, c69r12, c69r13, c69l14, c69r15, c69r16, hm0, tkw, wideD_len, go_sem, fill_c, ↓reduceIte, reduceCtorEq, Nat.reduceAdd, Nat.reduceSub, Nat.reducePow, Nat.reduceMul, Nat.reduceEqDiff, Nat.reduceLT, Nat.reduceLeDiff, Int.reduceToNat, Int.reduceLT, Int.reduceLE, Int.reduceEq, Int.reduceNeg, Int.reduceAdd, Int.reduceSub, Int.reduceMul]
  have hdv := pdiv_fc (h ++ M) A 1000000000000000000 hA (by omega) (by omega)
  rw [hqq, hrr] at hdv
  refine gfc_of hdv ?_
  rintro d1 h' ⟨rfl, e⟩
  rw [e]
  simp (disch := first | omega | (simp only [List.length_append, List.length_cons, List.length_nil]; omega)) only [wideD_one, wideD_len, spw, tkw, hqz, go_sem, fill_c, ↓reduceIte, reduceCtorEq, Nat.reduceAdd, Nat.reduceSub, Nat.reducePow, Nat.reduceMul, Nat.reduceEqDiff, Nat.reduceLT, Nat.reduceLeDiff, Int.reduceToNat, Int.reduceLT, Int.reduceLE, Int.reduceEq, Int.reduceNeg, Int.reduceAdd, Int.reduceSub, Int.reduceMul]
  have ho1 := ho.more [.box (wideD q)]
  have hm1 : (M ++ [Blk.box (wideD q)])[0]? = some (.box (wideD A)) := by
    rw [List.getElem?_append_left (List.getElem?_eq_some_iff.1 hm0).1]; exact hm0
  have hm2 : (M ++ [Blk.box (wideD q)])[M.length]? = some (.box (wideD q)) := List.getElem?_concat_length
  generalize M ++ [Blk.box (wideD q)] = M1 at ho1 hm1 hm2 ⊢
  refine loop_to 18 (fun i st => (∀ i', i' < i → i' = 0 ∨ ¬ (q = 0 ∧ rest / 10 ^ i' = 0)) ∧ ∃ (d : D) (M' : Heap), OutAt h.length (ofBytes (rdig n (18 * k + i))) (18 * k + i) d M' ∧ M'[0]? = some (.box (wideD A)) ∧ M'[M.length]? = some (.box (wideD q)) ∧
      ∃ j : Nat → D, st = ⟨(j 0 :: .ref h.length 0 :: .str (bs []) :: d :: .ref (h.length + M.length) 0 :: .int .u64 ((rest / 10 ^ i : Nat) : Int) :: .bool (decide (q = 0)) :: j 7 :: j 8 :: j 9 :: j 10 :: j 11 :: j 12 :: j 13 :: j 14 :: j 15 :: .int .i64 (i : Int) :: j 17 :: j 18 :: j 19 :: j 20 :: j 21 :: j 22 :: j 23 :: j 24 :: j 25 :: j 26 :: j 27 :: j 28 :: j 29 :: j 30 :: j 31 :: j 32 :: j 33 :: j 34 :: j 35 :: j 36 :: j 37 :: j 38 :: j 39 :: j 40 :: j 41 :: j 42 :: j 43 :: []), h ++ M'⟩) ⟨by omega, d, M1, ho1, hm1, hm2, by rw [Nat.pow_zero, Nat.div_one]; exact junk rfl⟩ ?_
  rintro i st hi ⟨hprev, d2, M', ho2, hn0, hn1, j2, rfl⟩
  clear ho1 hm1 hm2 ho hm0 hdv
  -- the end of all
  have fin : 0 < 18 * k + i → n / 10 ^ (18 * k + i) = 0 → (18 * k + i = 1 ∨ ¬ n / 10 ^ (18 * k + i - 1) = 0) → (rdig n (18 * k + i)).reverse = decF n := rdig_dec _ _
  have hmlen : 18 * k + i < 1000000 := by omega
  have hrl := rdig_len n (18 * k + i)
  have back : ∀ s, M'[s]? = some (Blk.grow 1 (ofBytes (rdig n (18 * k + i))) (18 * k + i)) → (h ++ M')[h.length + s]? = some (Blk.grow 1 (ofBytes (rdig n (18 * k + i))) (rdig n (18 * k + i)).length) := fun s hs => by
    rw [List.getElem?_append_right (by omega), Nat.add_sub_cancel_left, hrl]; exact hs
  have prev : 0 < i → q = 0 → 18 * k + i = 1 ∨ ¬ n / 10 ^ (18 * k + i - 1) = 0 := fun h1 h2 => by
    have e : 18 * k + i - 1 = 18 * k + (i - 1) := by omega
    rw [e, hna]
    rcases hprev (i - 1) (by omega) with h3 | h3
    · by_cases hk' : k = 0
      · left; omega
      · right
        rw [h3, Nat.pow_zero, Nat.div_one]
        rcases hk0 with h4 | h4
        · exact absurd h4 hk'
        · exact h4
    · right
      intro h4
      exact h3 ⟨h2, by rw [hlast h2]; exact h4⟩
  have fits : ∀ s : Nat, ∀ c : Blk, s < M'.length → (M'.set s c)[s]? = some c := fun s c hs => List.getElem?_set_self hs
  by_cases hstop : i = 18 ∨ (q = 0 ∧ rest / 10 ^ i = 0 ∧ 0 < i)
  · by_cases hlq : q = 0
    · -- last
      have h0 : 0 < i := by rcases hstop with h | h <;> omega
      have hz : n / 10 ^ (18 * k + i) = 0 := by
        rw [hna]
        rcases hstop with h | ⟨_, h, _⟩
        · subst h; rw [← hlast hlq]; exact Nat.div_eq_of_lt (by omega)
        · rw [← hlast hlq]; exact h
      have hfin := fin (by omega) hz (prev h0 hlq)
      obtain ⟨s, rfl, hs⟩ : ∃ s, d2 = .own (h.length + s) (18 * k + i) ∧ M'[s]? = some (.grow 1 (ofBytes (rdig n (18 * k + i))) (18 * k + i)) := by
        rcases ho2 with ⟨h1, _⟩ | ⟨_, s, h1, h2⟩
        · omega
        · exact ⟨s, h1, h2⟩
      have hsl := (List.getElem?_eq_some_iff.1 hs).1
      have hrev := reverse_fc (h ++ M') (h.length + s) (rdig n (18 * k + i)) (back s hs) (by omega)
      rw [hrl, hfin] at hrev
      have hdl : (decF n).length = 18 * k + i := by rw [← hfin, List.length_reverse, hrl]
      have e1 : decide (q = 0) = true := decide_eq_true hlq
      have hfit := fits s (.grow 1 (ofBytes (decF n)) (18 * k + i)) hsl
      by_cases h18 : i = 18
      · have hi18 : ¬ (i : Int) < 18 := by omega
        simp (disch := first | omega | (simp only [List.length_append, List.length_cons, List.length_nil]; omega)) only [c69r0, c69r1, c69r2, c69r3, c69r4, c69r5, c69r6, c69r7, c69r8, c69r9, c69r10, c69l11, c69r12, c69r13, c69l14, c69r15, c69r16, hi18, e1, go_sem, fill_c, ↓reduceIte, reduceCtorEq, Nat.reduceAdd, Nat.reduceSub, Nat.reducePow, Nat.reduceMul, Nat.reduceEqDiff, Nat.reduceLT, Nat.reduceLeDiff, Int.reduceToNat, Int.reduceLT, Int.reduceLE, Int.reduceEq, Int.reduceNeg, Int.reduceAdd, Int.reduceSub, Int.reduceMul]
        refine gfc_of hrev ?_
        rintro d3 h' ⟨rfl, e⟩
        rw [e]
        simp (disch := first | omega | (simp only [List.length_append, List.length_cons, List.length_nil]; omega)) only [hfit, hdl, go_sem, fill_c, ↓reduceIte, reduceCtorEq, Nat.reduceAdd, Nat.reduceSub, Nat.reducePow, Nat.reduceMul, Nat.reduceEqDiff, Nat.reduceLT, Nat.reduceLeDiff, Int.reduceToNat, Int.reduceLT, Int.reduceLE, Int.reduceEq, Int.reduceNeg, Int.reduceAdd, Int.reduceSub, Int.reduceMul]
        exact FinOk.drop (.inl rfl) (by simp [underL, underD]) ⟨rfl, rfl⟩
      · have hi18 : (i : Int) < 18 := by omega
        have e2 : decide (((rest / 10 ^ i : Nat) : Int) = 0) = true := decide_eq_true (by rcases hstop with h | ⟨_, h, _⟩ <;> omega)
        have e3 : (0 : Int) < (i : Int) := by omega
        simp (disch := first | omega | (simp only [List.length_append, List.length_cons, List.length_nil]; omega)) only [c69r0, c69r1, c69r2, c69r3, c69r4, c69r5, c69r6, c69r7, c69r8, c69r9, c69r10, c69l11, c69r12, c69r13, c69l14, c69r15, c69r16, hi18, e1, e2, e3, go_sem, fill_c, ↓reduceIte, reduceCtorEq, Nat.reduceAdd, Nat.reduceSub, Nat.reducePow, Nat.reduceMul, Nat.reduceEqDiff, Nat.reduceLT, Nat.reduceLeDiff, Int.reduceToNat, Int.reduceLT, Int.reduceLE, Int.reduceEq, Int.reduceNeg, Int.reduceAdd, Int.reduceSub, Int.reduceMul]
        refine gfc_of hrev ?_
        rintro d3 h' ⟨rfl, e⟩
        rw [e]
        simp (disch := first | omega | (simp only [List.length_append, List.length_cons, List.length_nil]; omega)) only [hfit, hdl, go_sem, fill_c, ↓reduceIte, reduceCtorEq, Nat.reduceAdd, Nat.reduceSub, Nat.reducePow, Nat.reduceMul, Nat.reduceEqDiff, Nat.reduceLT, Nat.reduceLeDiff, Int.reduceToNat, Int.reduceLT, Int.reduceLE, Int.reduceEq, Int.reduceNeg, Int.reduceAdd, Int.reduceSub, Int.reduceMul]
        exact FinOk.drop (.inl rfl) (by simp [underL, underD]) ⟨rfl, rfl⟩
    · obtain rfl : i = 18 := by rcases hstop with h | h; exact h; exact absurd h.1 hlq
      have hi18 : ¬ ((18 : Nat) : Int) < 18 := by omega
      have hM0 : 0 < M'.length := (List.getElem?_eq_some_iff.1 hn0).1
      have hf0 := fits 0 (.box (wideD q)) hM0
      simp (disch := first | omega | (simp only [List.length_append, List.length_cons, List.length_nil]; omega)) only [c69r0, c69r1, c69r2, c69r3, c69r4, c69r5, c69r6, c69r7, c69r8, c69r9, c69r10, c69l11, c69r12, c69r13, c69l14, c69r15, c69r16, hi18, hlq, hn0, hn1, wideD_one, wideD_len, tkw, spw2, go_sem, fill_c, ↓reduceIte, reduceCtorEq, Nat.reduceAdd, Nat.reduceSub, Nat.reducePow, Nat.reduceMul, Nat.reduceEqDiff, Nat.reduceLT, Nat.reduceLeDiff, Int.reduceToNat, Int.reduceLT, Int.reduceLE, Int.reduceEq, Int.reduceNeg, Int.reduceAdd, Int.reduceSub, Int.reduceMul]
      refine ⟨hk3, .inr (by rw [hnk]; exact hlq), d2, M'.set 0 (.box (wideD q)), ?_, by rw [hnk]; exact hf0, junk rfl⟩
      rw [show 18 * (k + 1) = 18 * k + 18 by omega]
      rcases ho2 with h1 | ⟨h1, s, h2, h3⟩
      · exact .inl h1
      · refine .inr ⟨h1, s, h2, ?_⟩
        have hne : ¬ 0 = s := by
          rintro rfl
          rw [hn0] at h3; cases h3
        rw [List.getElem?_set_ne hne]; exact h3
  · have hi18 : i < 18 := Nat.lt_of_le_of_ne hi fun h => hstop (.inl h)
    have hi18' : (i : Int) < 18 := by omega
    have hdig := hcd i hi18
    have wi : IntKind.i64.wrap ((i : Int) + 1) = ((i + 1 : Nat) : Int) := by rw [w_i64 (by omega) (by omega)]; omega
    have hri : rest / 10 ^ i < 1000000000000000000 := Nat.lt_of_le_of_lt (Nat.div_le_self _ _) hr
    have hpn : rest / 10 ^ (i + 1) = rest / 10 ^ i / 10 := by rw [Nat.pow_succ, ← Nat.div_div_eq_div_mul]
    have hten : rest / 10 ^ i % 10 < 10 := Nat.mod_lt _ (by omega)
    have hb : UInt8.ofNat (48 + n / 10 ^ (18 * k + i) % 10) = UInt8.ofNat (48 + rest / 10 ^ i % 10) := by rw [hna, ← hdig]
    have hsn := rdig_snoc n (18 * k + i)
    rw [hb] at hsn
    obtain ⟨d3, M3, q1, q2, q3⟩ := ho2.app (.int .u8 ((48 : Int) + ((rest / 10 ^ i % 10 : Nat) : Int))) (by omega) 1 (by omega)
    have chr : (48 : Int) + ((rest / 10 ^ i % 10 : Nat) : Int) = ((UInt8.ofNat (48 + rest / 10 ^ i % 10)).toNat : Int) := by
      rw [UInt8.toNat_ofNat_of_lt' (by show _ < 256; omega)]; omega
    have wa : IntKind.u64.wrap ((48 : Int) + ((rest / 10 ^ i % 10 : Nat) : Int)) = (48 : Int) + ((rest / 10 ^ i % 10 : Nat) : Int) := w_u64 (by omega) (by omega)
    have wb : IntKind.u8.wrap ((48 : Int) + ((rest / 10 ^ i % 10 : Nat) : Int)) = (48 : Int) + ((rest / 10 ^ i % 10 : Nat) : Int) := w_u8 (by omega) (by omega)
    have dv := ar_quoN (k := .u64) (x := rest / 10 ^ i) (y := 10) (by omega) (w_u64 (Int.natCast_nonneg _) (by omega))
    have md := ar_remN (k := .u64) (x := rest / 10 ^ i) (y := 10) (by omega)
    rw [show (((10 : Nat) : Int)) = 10 from rfl] at dv md
    have hnext : ∀ i', i' < i + 1 → i' = 0 ∨ ¬ (q = 0 ∧ rest / 10 ^ i' = 0) := fun i' hi' => by
      by_cases e : i' = i
      · subst e
        by_cases h0 : i' = 0
        · exact .inl h0
        · exact .inr fun ⟨h1, h2⟩ => hstop (.inr ⟨h1, h2, by omega⟩)
      · exact hprev i' (by omega)
    have hout : OutAt h.length (ofBytes (rdig n (18 * k + (i + 1)))) (18 * k + (i + 1)) d3 M3 := by
      rw [show 18 * k + (i + 1) = 18 * k + i + 1 by omega, hsn, ← ofBytes_append]
      rw [chr] at q2
      exact q2
    by_cases hlq : q = 0
    · have e1 : decide (q = 0) = true := decide_eq_true hlq
      by_cases hz : rest / 10 ^ i = 0
      · have h0 : i = 0 := Classical.byContradiction fun h => hstop (.inr ⟨hlq, hz, by omega⟩)
        have e2 : decide (((rest / 10 ^ i : Nat) : Int) = 0) = true := decide_eq_true (by omega)
        have e3 : ¬ (0 : Int) < (i : Int) := by omega
        simp (disch := first | omega | (simp only [List.length_append, List.length_cons, List.length_nil]; omega)) only [c69r0, c69r1, c69r2, c69r3, c69r4, c69r5, c69r6, c69r7, c69r8, c69r9, c69r10, c69l11, c69r12, c69r13, c69l14, c69r15, c69r16, hi18', e1, e2, e3, dv, md, wa, wb, fillD, splice0, q1, wi, go_sem, fill_c, ↓reduceIte, reduceCtorEq, Nat.reduceAdd, Nat.reduceSub, Nat.reducePow, Nat.reduceMul, Nat.reduceEqDiff, Nat.reduceLT, Nat.reduceLeDiff, Int.reduceToNat, Int.reduceLT, Int.reduceLE, Int.reduceEq, Int.reduceNeg, Int.reduceAdd, Int.reduceSub, Int.reduceMul]
        refine ⟨hnext, d3, M3, hout, q3 _ _ hn0, q3 _ _ hn1, ?_⟩
        rw [hpn]
        exact junk rfl
      · have e2 : ¬ ((rest / 10 ^ i : Nat) : Int) = 0 := by omega
        simp (disch := first | omega | (simp only [List.length_append, List.length_cons, List.length_nil]; omega)) only [c69r0, c69r1, c69r2, c69r3, c69r4, c69r5, c69r6, c69r7, c69r8, c69r9, c69r10, c69l11, c69r12, c69r13, c69l14, c69r15, c69r16, hi18', e1, e2, dv, md, wa, wb, fillD, splice0, q1, wi, go_sem, fill_c, ↓reduceIte, reduceCtorEq, Nat.reduceAdd, Nat.reduceSub, Nat.reducePow, Nat.reduceMul, Nat.reduceEqDiff, Nat.reduceLT, Nat.reduceLeDiff, Int.reduceToNat, Int.reduceLT, Int.reduceLE, Int.reduceEq, Int.reduceNeg, Int.reduceAdd, Int.reduceSub, Int.reduceMul]
        refine ⟨hi18, hnext, d3, M3, hout, q3 _ _ hn0, q3 _ _ hn1, ?_⟩
        rw [hpn]
        exact junk rfl
    · have e1 : decide (q = 0) = false := decide_eq_false hlq
      simp (disch := first | omega | (simp only [List.length_append, List.length_cons, List.length_nil]; omega)) only [c69r0, c69r1, c69r2, c69r3, c69r4, c69r5, c69r6, c69r7, c69r8, c69r9, c69r10, c69l11, c69r12, c69r13, c69l14, c69r15, c69r16, hi18', e1, dv, md, wa, wb, fillD, splice0, q1, wi, go_sem, fill_c, ↓reduceIte, reduceCtorEq, Nat.reduceAdd, Nat.reduceSub, Nat.reducePow, Nat.reduceMul, Nat.reduceEqDiff, Nat.reduceLT, Nat.reduceLeDiff, Int.reduceToNat, Int.reduceLT, Int.reduceLE, Int.reduceEq, Int.reduceNeg, Int.reduceAdd, Int.reduceSub, Int.reduceMul]
      refine ⟨hi18, hnext, d3, M3, hout, q3 _ _ hn0, q3 _ _ hn1, ?_⟩
      rw [hpn]
      exact junk rfl
end Go.Proofs
