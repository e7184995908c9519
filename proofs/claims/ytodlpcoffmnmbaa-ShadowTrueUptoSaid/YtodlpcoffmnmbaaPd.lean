/-
  Own work. The walk of prefix.Last.
-/
import Derived.Test.YtodlpcoffmnmbaaPc
namespace Go.Proofs
open Go Go.Ytodlpcoffmnmbaa
set_option linter.unusedVariables false
set_option linter.unusedSimpArgs false
set_option maxRecDepth 10000

/-! ### weighbridge/prefix.Last, params 1 -/
def c24r0 : List AStm := [.op (some 1) none (.box (.t 0)),
    .op (some 2) none (.alloc (List.replicate 16 (.int .u8 0)))]
def c24r1 : List AStm := [.op (some 8) none (.load (some 18) (.t 1)),
    .call (some 9) none (.c (.fn (.func 61) [] [])) [(.t 8)],
    .op (some 10) none (.un .not (.t 9))]
def c24r2 : List AStm := [.op (some 11) none (.build (List.replicate 16 (.int .u8 0)) []),
    .op none none (.store 16 (.t 2) (.t 11))]
def c24r3 : List AStm := [.op (some 13) none (.faddr 0 (.t 1)),
    .op (some 14) none (.load none (.t 13)),
    .call (some 15) none (.c (.fn (.func 60) [] [])) [(.t 14)],
    .op (some 12) none (.mv (.t 15)),
    .op (some 16) none (.ext (.t 12) 0),
    .op (some 17) none (.ext (.t 12) 1),
    .op (some 3) none (.mv (.t 16)),
    .op (some 4) none (.mv (.t 17))]
def c24r4 : List AStm := [.op (some 18) none (.faddr 1 (.t 1)),
    .op (some 19) none (.load (some 16) (.t 18)),
    .op (some 5) none (.alloc (List.replicate 16 (.int .u8 0))),
    .op none none (.store 16 (.t 5) (.t 19))]
def c24r5 : List AStm := [.op (some 20) none (.mv (.t 3)),
    .op (some 21) none (.bin .quo (.t 20) (.c (.int .i64 8))),
    .op (some 22) none (.mv (.c (.int .i64 0)))]
def c24r6 : List AStm := [.op (some 23) none (.bin .lss (.t 22) (.t 21))]
def c24r7 : List AStm := [.op (some 24) none (.mv (.t 22)),
    .op (some 6) none (.mv (.t 24))]
def c24r8 : List AStm := [.op (some 25) none (.faddr 17 (.t 1)),
    .op (some 26) none (.load none (.t 25)),
    .op (some 27) none (.mv (.t 6)),
    .op (some 28) none (.bin .mul (.c (.int .i64 8)) (.t 27)),
    .op (some 29) none (.bin .sub (.t 26) (.t 28)),
    .op (some 7) none (.mv (.t 29))]
def c24r9 : List AStm := [.op (some 31) none (.mv (.t 7)),
    .op (some 32) none (.bin .leq (.t 31) (.c (.int .i64 0))),
    .op (some 30) none (.mv (.t 32))]
def c24r10 : List AStm := [.op (some 33) none (.mv (.t 6)),
    .op (some 34) none (.ixa 16 1 (.t 5) (.t 33)),
    .op none none (.store 1 (.t 34) (.c (.int .u8 255)))]
def c24r11 : List AStm := [.op (some 36) none (.mv (.t 7)),
    .op (some 37) none (.bin .lss (.t 36) (.c (.int .i64 8))),
    .op (some 35) none (.mv (.t 37))]
def c24r12 : List AStm := [.op (some 38) none (.mv (.t 6)),
    .op (some 39) none (.ixa 16 1 (.t 5) (.t 38)),
    .op (some 40) none (.load none (.t 39)),
    .op (some 41) none (.mv (.t 7)),
    .op (some 42) none (.conv .u64 (.t 41)),
    .op (some 43) none (.bin .shr (.c (.int .u8 255)) (.t 42)),
    .op (some 44) none (.bin .or (.t 40) (.t 43)),
    .op (some 45) none (.ixa 16 1 (.t 5) (.t 38)),
    .op none none (.store 1 (.t 45) (.t 44))]
def c24r13 : List AStm := [.op (some 46) none (.bin .add (.t 22) (.c (.int .i64 1))),
    .op (some 22) none (.mv (.t 46))]
def c24l14 : AC := .seq (.reg c24r6) (.seq (.cond (.t 23) (.skip) (.exit 0)) (.seq (.block 1 (.seq (.reg c24r7) (.seq (.reg c24r8) (.block 2 (.seq (.reg c24r9) (.cond (.t 30) (.reg c24r10) (.seq (.reg c24r11) (.cond (.t 35) (.reg c24r12) (.skip))))))))) (.reg c24r13)))
def c24r15 : List AStm := [.op (some 47) none (.load (some 16) (.t 5)),
    .op none none (.store 16 (.t 2) (.t 47))]
def c24 : CF := ⟨.seq (.reg c24r0) (.seq (.seq (.reg c24r1) (.cond (.t 10) (.seq (.reg c24r2) (.ret)) (.skip))) (.seq (.reg c24r3) (.seq (.reg c24r4) (.seq (.seq (.reg c24r5) (.block 0 (.loop c24l14))) (.seq (.reg c24r15) (.ret)))))), [.cell 2 (some 16)], 48⟩
theorem cf24 : cfun Try.prog 24 = some c24 := by kernel_rfl



def lastB (b : UInt8) (left : Nat) : UInt8 := if left = 0 then 255 else if left < 8 then UInt8.ofNat (b.toNat ||| (255 >>> left)) else b
theorem lastB_lt (b : UInt8) (s : Nat) : b.toNat ||| (255 >>> s) < 256 := by
  refine Nat.or_lt_two_pow (n := 8) b.toNat_lt ?_
  rw [Nat.shiftRight_eq_div_pow]
  exact Nat.lt_of_le_of_lt (Nat.div_le_self _ _) (by omega)
theorem lastB_bit (b : UInt8) (left j : Nat) (hj : j < 8) : (lastB b left).toNat.testBit (7 - j) = (decide (left ≤ j) || b.toNat.testBit (7 - j)) := by
  unfold lastB
  by_cases h0 : left = 0
  · rw [if_pos h0, h0, show (255 : UInt8).toNat = 2 ^ 8 - 1 from rfl, Nat.testBit_two_pow_sub_one]
    simp; omega
  · rw [if_neg h0]
    by_cases h8 : left < 8
    · rw [if_pos h8, UInt8.toNat_ofNat_of_lt' (by exact lastB_lt _ _), Nat.testBit_or, Nat.testBit_shiftRight, show (255 : Nat) = 2 ^ 8 - 1 by rfl, Nat.testBit_two_pow_sub_one, Bool.or_comm]
      congr 1
      rw [decide_eq_decide]
      omega
    · rw [if_neg h8]
      have : ¬ left ≤ j := by omega
      simp [this]
/-- The first k bytes with all bits behind the first n. -/
def lastTo (a : List UInt8) (n k : Nat) : List UInt8 := (List.range 16).map fun i => if i < k then lastB (a.getD i 0) (n - 8 * i) else a.getD i 0
theorem lastTo_length (a : List UInt8) (n k : Nat) : (lastTo a n k).length = 16 := by simp [lastTo]
theorem lastTo_getD (a : List UInt8) (n k i : Nat) (h : i < 16) : (lastTo a n k).getD i 0 = if i < k then lastB (a.getD i 0) (n - 8 * i) else a.getD i 0 := by
  rw [List.getD_eq_getElem?_getD, lastTo, List.getElem?_map, List.getElem?_range h]; rfl
theorem lastTo_zero {a : List UInt8} (ha : a.length = 16) (n : Nat) : lastTo a n 0 = a := by
  refine bytes_ext (by rw [lastTo_length, ha]) fun i hi => ?_
  rw [lastTo_length] at hi
  rw [lastTo_getD _ _ _ _ hi, if_neg (by omega)]
theorem lastTo_set (a : List UInt8) (n k : Nat) (h : k < 16) : (lastTo a n k).set k (lastB (a.getD k 0) (n - 8 * k)) = lastTo a n (k + 1) := by
  refine bytes_ext (by rw [List.length_set, lastTo_length, lastTo_length]) fun i hi => ?_
  rw [List.length_set, lastTo_length] at hi
  rw [getD_set8, lastTo_length, lastTo_getD _ _ _ _ hi, lastTo_getD _ _ _ _ hi]
  by_cases e : k = i
  · subst e
    rw [if_pos ⟨rfl, h⟩, if_pos (by omega)]
  · rw [if_neg (by omega)]
    have : (i < k + 1) ↔ i < k := by omega
    simp only [this]
theorem lastTo_bit (a : List UInt8) (n k i : Nat) (hi : i < 128) : abit (lastTo a n k) i = if i / 8 < k then (decide (n ≤ i) || abit a i) else abit a i := by
  unfold abit
  rw [lastTo_getD _ _ _ _ (by omega)]
  split
  · rw [lastB_bit _ _ _ (by omega)]
    congr 1
    rw [decide_eq_decide]; omega
  · rfl
/-- The last address that has a prefix. -/
def lastF (v : Int) (a : List UInt8) (n : Int) : List UInt8 := if checkF v a n = 0 then lastTo a n.toNat ((mostN v).toNat / 8) else zeros 16
theorem lastF_length (v : Int) (a : List UInt8) (n : Int) : (lastF v a n).length = 16 := by
  unfold lastF; split
  · exact lastTo_length _ _ _
  · simp [zeros]
theorem plast_fc (h : Heap) (v n : Int) (a : List UInt8) (ha : a.length = 16) : FC Try.prog 24 [prefD v a n] h fun d h' => d = .agg (ofBytes (lastF v a n)) ∧ h' = h := by
  have p1 := pr_take ha [.int .i64 n]
  have p2 := pr_drop ha [.int .i64 n]
  have p3 := pr_len ha (.int .i64 n)
  have p4 := pr_one a n
  have p6 : List.take 17 (ofBytes a ++ [D.int .i64 n]) = ofBytes a ++ [D.int .i64 n] := List.take_of_length_le (by omega)
  have hbl : (ofBytes a).length = 16 := by rw [ofBytes_length, ha]
  have e := right_fc
  unfold prefD at e
  refine FC.goes cf24 ?_; simp only [c24]; simp only [List.length_cons, List.length_nil, Nat.reduceAdd, Nat.reduceSub, List.replicate_succ, List.replicate_zero, List.cons_append, List.nil_append]
  simp (disch := first | omega | (simp only [List.length_append, List.length_cons, List.length_nil]; omega)) only [c24r0, c24r1, c24r2, c24r3, c24r4, c24r5, c24r6, c24r7, c24r8, c24r9, c24r10, c24r11, c24r12, c24r13, c24l14, c24r15, prefD, p2, p3, p4, go_sem, fill_c, ↓reduceIte, reduceCtorEq, Nat.reduceAdd, Nat.reduceSub, Nat.reducePow, Nat.reduceMul, Nat.reduceEqDiff, Nat.reduceLT, Nat.reduceLeDiff, Int.reduceToNat, Int.reduceLT, Int.reduceLE, Int.reduceEq, Int.reduceNeg, Int.reduceAdd, Int.reduceSub, Int.reduceMul]
  try rw [p6]
  refine gfc_of (e _ v n a ha) ?_
  rintro d h' ⟨rfl, e0⟩
  rw [e0]
  by_cases hc : checkF v a n = 0
  · simp (disch := first | omega | (simp only [List.length_append, List.length_cons, List.length_nil]; omega)) only [hc, go_sem, fill_c, ↓reduceIte, reduceCtorEq, Nat.reduceAdd, Nat.reduceSub, Nat.reducePow, Nat.reduceMul, Nat.reduceEqDiff, Nat.reduceLT, Nat.reduceLeDiff, Int.reduceToNat, Int.reduceLT, Int.reduceLE, Int.reduceEq, Int.reduceNeg, Int.reduceAdd, Int.reduceSub, Int.reduceMul]
    refine gfc_of (pmost_fc _ v) ?_
    rintro d h' ⟨rfl, e0⟩
    rw [e0]
    have hf0 : fitsF v n = 0 := by
      unfold checkF at hc
      split at hc
      · rename_i h1; exact absurd hc h1
      · rename_i h1; simpa using h1
    obtain ⟨h0, h1⟩ := checkF_le hf0
    obtain ⟨n, rfl⟩ := Int.eq_ofNat_of_zero_le h0
    obtain ⟨m, hm⟩ : ∃ m, mostF v = some m := by
      unfold fitsF at hf0
      cases hm : mostF v with
      | none => rw [hm] at hf0; cases hf0
      | some m => exact ⟨m, rfl⟩
    have hm1 : mostN v = (m : Int) := by rw [mostN, hm]
    have hm2 := mostF_le hm
    have hlf : lastF v a (n : Int) = lastTo a n (m / 8) := by
      unfold lastF
      rw [if_pos hc, hm1]; rfl
    have p7 : List.take 16 (ofBytes a ++ [D.int .i64 (n : Int)]) = ofBytes a := p1
    have p9 : (ofBytes a ++ [D.int .i64 (n : Int)])[16]? = some (.int .i64 (n : Int)) := by
      rw [List.getElem?_append_right (by omega), hbl]; rfl
    have p8 : List.drop 16 (ofBytes a ++ [D.int .i64 (n : Int)]) = [.int .i64 (n : Int)] := p2
    rw [hlf, hm1]
    have eq8 : (((m : Nat) : Int)).tdiv 8 = ((m / 8 : Nat) : Int) := by rw [Int.ofNat_tdiv]; rfl
    have w8 : IntKind.i64.wrap ((m / 8 : Nat) : Int) = ((m / 8 : Nat) : Int) := w_i64 (by omega) (by omega)
    simp (disch := first | omega | (simp only [List.length_append, List.length_cons, List.length_nil]; omega)) only [fillD, splice0, hbl, p7, p3, p8, go_sem, fill_c, ↓reduceIte, reduceCtorEq, Nat.reduceAdd, Nat.reduceSub, Nat.reducePow, Nat.reduceMul, Nat.reduceEqDiff, Nat.reduceLT, Nat.reduceLeDiff, Int.reduceToNat, Int.reduceLT, Int.reduceLE, Int.reduceEq, Int.reduceNeg, Int.reduceAdd, Int.reduceSub, Int.reduceMul]
    refine loop_to (m / 8) (fun k st => ∃ (j : Nat → D), st = ⟨(j 0 :: .ref h.length 0 :: .ref (h.length + 1) 0 :: j 3 :: j 4 :: .ref (h.length + 2) 0 :: j 6 :: j 7 :: j 8 :: j 9 :: j 10 :: j 11 :: j 12 :: j 13 :: j 14 :: j 15 :: j 16 :: j 17 :: j 18 :: j 19 :: j 20 :: .int .i64 ((m / 8 : Nat) : Int) :: .int .i64 (k : Int) :: j 23 :: j 24 :: j 25 :: j 26 :: j 27 :: j 28 :: j 29 :: j 30 :: j 31 :: j 32 :: j 33 :: j 34 :: j 35 :: j 36 :: j 37 :: j 38 :: j 39 :: j 40 :: j 41 :: j 42 :: j 43 :: j 44 :: j 45 :: j 46 :: j 47 :: []), h ++ [.box (.int .i64 v :: (ofBytes a ++ [.int .i64 (n : Int)])), .box (List.replicate 16 (.int .u8 0)), .box (ofBytes (lastTo a n k))]⟩) (by rw [lastTo_zero ha]; exact junk rfl) ?_
    rintro k st hk ⟨j, rfl⟩
    have hbl : (ofBytes (lastTo a n k)).length = 16 := by rw [ofBytes_length, lastTo_length]
    by_cases hk16 : k < m / 8
    · have hk' : (k : Int) < ((m / 8 : Nat) : Int) := by omega
      have hk1 : k < 16 := by omega
      have hk2 : (k : Int) < 16 := by omega
      have e1 : IntKind.i64.wrap (8 * (k : Int)) = ((8 * k : Nat) : Int) := by rw [w_i64 (by omega) (by omega)]; omega
      have e2 : IntKind.i64.wrap ((n : Int) - ((8 * k : Nat) : Int)) = (n : Int) - ((8 * k : Nat) : Int) := w_i64 (by omega) (by omega)
      have e5 : IntKind.i64.wrap ((k : Int) + 1) = ((k + 1 : Nat) : Int) := by rw [w_i64 (by omega) (by omega)]; omega
      have hset := lastTo_set a n k hk1
      by_cases h0 : (n : Int) - ((8 * k : Nat) : Int) ≤ 0
      · have hb : lastB (a.getD k 0) (n - 8 * k) = 255 := by
          have : n - 8 * k = 0 := by omega
          simp [lastB, this]
        simp (disch := first | omega | (simp only [List.length_append, List.length_cons, List.length_nil]; omega)) only [c24r0, c24r1, c24r2, c24r3, c24r4, c24r5, c24r6, c24r7, c24r8, c24r9, c24r10, c24r11, c24r12, c24r13, c24l14, c24r15, hk', hk2, e1, e2, h0, e5, hbl, p8, p9, go_sem, fill_c, ↓reduceIte, reduceCtorEq, Nat.reduceAdd, Nat.reduceSub, Nat.reducePow, Nat.reduceMul, Nat.reduceEqDiff, Nat.reduceLT, Nat.reduceLeDiff, Int.reduceToNat, Int.reduceLT, Int.reduceLE, Int.reduceEq, Int.reduceNeg, Int.reduceAdd, Int.reduceSub, Int.reduceMul]
        refine ⟨hk16, ?_⟩
        rw [← hset, hb, ofBytes_put]
        exact junk rfl
      · by_cases h8 : (n : Int) - ((8 * k : Nat) : Int) < 8
        · obtain ⟨left, hl⟩ : ∃ left : Nat, n = 8 * k + left := ⟨n - 8 * k, by omega⟩
          have hl2 : n - 8 * k = left := by omega
          have hl3 : (n : Int) - ((8 * k : Nat) : Int) = (left : Int) := by omega
          rw [hl2] at hset
          rw [hl3] at e2 h0 h8
          have e2' : IntKind.i64.wrap ((n : Int) - ((8 * k : Nat) : Int)) = (left : Int) := by rw [hl3]; exact e2
          have e7 : IntKind.u64.wrap (left : Int) = (left : Int) := w_u64 (by omega) (by omega)
          have hg : (List.drop k (ofBytes (lastTo a n k)))[0]? = some (.int .u8 ((a.getD k 0).toNat : Int)) := by
            rw [List.getElem?_drop, Nat.add_zero, ofBytes_get, getB (by rw [lastTo_length]; omega), lastTo_getD _ _ _ _ hk1, if_neg (by omega)]; rfl
          have a1 : arith .shr (.int .u8 255) (.int .u64 (left : Int)) = some (.int .u8 ((255 >>> left : Nat) : Int)) := by
            have := ar_shrN (k := .u8) (k' := .u64) (x := 255) (b := (left : Int)) (by omega) (by rw [Int.toNat_natCast]; show left ≤ 8; omega)
            rw [Nat.shiftRight_eq_div_pow]
            exact this
          have h255 : 255 >>> left < 256 := by
            rw [Nat.shiftRight_eq_div_pow]
            exact Nat.lt_of_le_of_lt (Nat.div_le_self _ _) (by omega)
          have a2 : arith .or (.int .u8 ((a.getD k 0).toNat : Int)) (.int .u8 ((255 >>> left : Nat) : Int)) = some (.int .u8 (((a.getD k 0).toNat ||| (255 >>> left) : Nat) : Int)) := or_u8 (a.getD k 0).toNat_lt h255
          have hb : lastB (a.getD k 0) left = UInt8.ofNat ((a.getD k 0).toNat ||| (255 >>> left)) := by
            have h1 : ¬ left = 0 := by omega
            have h2 : left < 8 := by omega
            simp [lastB, h1, h2]
          have hbt : (UInt8.ofNat ((a.getD k 0).toNat ||| (255 >>> left))).toNat = (a.getD k 0).toNat ||| (255 >>> left) := UInt8.toNat_ofNat_of_lt' (by exact lastB_lt _ _)
          simp (disch := first | omega | (simp only [List.length_append, List.length_cons, List.length_nil]; omega)) only [c24r0, c24r1, c24r2, c24r3, c24r4, c24r5, c24r6, c24r7, c24r8, c24r9, c24r10, c24r11, c24r12, c24r13, c24l14, c24r15, hk', hk2, e1, e2', h0, h8, e5, e7, hbl, hg, a1, a2, p8, p9, go_sem, fill_c, ↓reduceIte, reduceCtorEq, Nat.reduceAdd, Nat.reduceSub, Nat.reducePow, Nat.reduceMul, Nat.reduceEqDiff, Nat.reduceLT, Nat.reduceLeDiff, Int.reduceToNat, Int.reduceLT, Int.reduceLE, Int.reduceEq, Int.reduceNeg, Int.reduceAdd, Int.reduceSub, Int.reduceMul]
          refine ⟨hk16, ?_⟩
          rw [← hset, hb, ofBytes_put, hbt]
          exact junk rfl
        · have hb : lastB (a.getD k 0) (n - 8 * k) = a.getD k 0 := by
            have h1 : ¬ n - 8 * k = 0 := by omega
            have h2 : ¬ n - 8 * k < 8 := by omega
            unfold lastB
            rw [if_neg h1, if_neg h2]
          have hsame : lastTo a n (k + 1) = lastTo a n k := by
            rw [← hset, hb]
            refine bytes_ext (by simp) fun i hi => ?_
            rw [List.length_set, lastTo_length] at hi
            rw [getD_set8, lastTo_length]
            split
            · rename_i hc
              obtain ⟨rfl, _⟩ := hc
              rw [lastTo_getD _ _ _ _ hi, if_neg (by omega)]
            · rfl
          simp (disch := first | omega | (simp only [List.length_append, List.length_cons, List.length_nil]; omega)) only [c24r0, c24r1, c24r2, c24r3, c24r4, c24r5, c24r6, c24r7, c24r8, c24r9, c24r10, c24r11, c24r12, c24r13, c24l14, c24r15, hk', e1, e2, h0, h8, e5, p8, p9, go_sem, fill_c, ↓reduceIte, reduceCtorEq, Nat.reduceAdd, Nat.reduceSub, Nat.reducePow, Nat.reduceMul, Nat.reduceEqDiff, Nat.reduceLT, Nat.reduceLeDiff, Int.reduceToNat, Int.reduceLT, Int.reduceLE, Int.reduceEq, Int.reduceNeg, Int.reduceAdd, Int.reduceSub, Int.reduceMul]
          refine ⟨hk16, ?_⟩
          rw [hsame]
          exact junk rfl
    · have hk' : ¬ (k : Int) < ((m / 8 : Nat) : Int) := by omega
      have : k = m / 8 := by omega
      subst this
      have htk : List.take 16 (ofBytes (lastTo a n (m / 8))) = ofBytes (lastTo a n (m / 8)) := List.take_of_length_le (by omega)
      simp (disch := first | omega | (simp only [List.length_append, List.length_cons, List.length_nil]; omega)) only [c24r0, c24r1, c24r2, c24r3, c24r4, c24r5, c24r6, c24r7, c24r8, c24r9, c24r10, c24r11, c24r12, c24r13, c24l14, c24r15, hk', hbl, htk, splice0, go_sem, fill_c, ↓reduceIte, reduceCtorEq, Nat.reduceAdd, Nat.reduceSub, Nat.reducePow, Nat.reduceMul, Nat.reduceEqDiff, Nat.reduceLT, Nat.reduceLeDiff, Int.reduceToNat, Int.reduceLT, Int.reduceLE, Int.reduceEq, Int.reduceNeg, Int.reduceAdd, Int.reduceSub, Int.reduceMul]
      exact FinOk.drop (.inl rfl) (by simp [underL, underD, under_bytes]) ⟨rfl, rfl⟩
  · have hf : lastF v a n = zeros 16 := by unfold lastF; rw [if_neg hc]
    rw [hf]
    simp (disch := first | omega | (simp only [List.length_append, List.length_cons, List.length_nil]; omega)) only [hc, fillD, splice0, go_sem, fill_c, ↓reduceIte, reduceCtorEq, Nat.reduceAdd, Nat.reduceSub, Nat.reducePow, Nat.reduceMul, Nat.reduceEqDiff, Nat.reduceLT, Nat.reduceLeDiff, Int.reduceToNat, Int.reduceLT, Int.reduceLE, Int.reduceEq, Int.reduceNeg, Int.reduceAdd, Int.reduceSub, Int.reduceMul]
    exact FinOk.drop (.inl rfl) (by simp [underL, underD]) ⟨rfl, rfl⟩
end Go.Proofs
