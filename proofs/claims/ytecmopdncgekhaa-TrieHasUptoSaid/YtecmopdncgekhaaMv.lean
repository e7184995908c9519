import Derived.Test.YtecmopdncgekhaaMp
import Derived.Test.YtecmopdncgekhaaMu
/-
  Own work. The walk of prefix.Last.
-/
namespace Go.Proofs
open Go Go.Ytecmopdncgekhaa
set_option linter.unusedVariables false
set_option linter.unusedSimpArgs false
set_option maxRecDepth 10000

/-! ### weighbridge/prefix.Last, params 1 -/
def c18r0 : List AStm := [.op (some 1) none (.box (.t 0)),
    .op (some 2) none (.alloc (List.replicate 16 (.int .u8 0)))]
def c18r1 : List AStm := [.op (some 8) none (.load (some 18) (.t 1)),
    .call (some 9) none (.c (.fn (.func 30) [] [])) [(.t 8)],
    .op (some 10) none (.un .not (.t 9))]
def c18r2 : List AStm := [.op (some 11) none (.build (List.replicate 16 (.int .u8 0)) []),
    .op none none (.store 16 (.t 2) (.t 11))]
def c18r3 : List AStm := [.op (some 13) none (.faddr 0 (.t 1)),
    .op (some 14) none (.load none (.t 13)),
    .call (some 15) none (.c (.fn (.func 31) [] [])) [(.t 14)],
    .op (some 12) none (.mv (.t 15)),
    .op (some 16) none (.ext (.t 12) 0),
    .op (some 17) none (.ext (.t 12) 1),
    .op (some 3) none (.mv (.t 16)),
    .op (some 4) none (.mv (.t 17))]
def c18r4 : List AStm := [.op (some 18) none (.faddr 1 (.t 1)),
    .op (some 19) none (.load (some 16) (.t 18)),
    .op (some 5) none (.alloc (List.replicate 16 (.int .u8 0))),
    .op none none (.store 16 (.t 5) (.t 19))]
def c18r5 : List AStm := [.op (some 20) none (.mv (.t 3)),
    .op (some 21) none (.bin .quo (.t 20) (.c (.int .i64 8))),
    .op (some 22) none (.mv (.c (.int .i64 0)))]
def c18r6 : List AStm := [.op (some 23) none (.bin .lss (.t 22) (.t 21))]
def c18r7 : List AStm := [.op (some 24) none (.mv (.t 22)),
    .op (some 6) none (.mv (.t 24))]
def c18r8 : List AStm := [.op (some 25) none (.faddr 17 (.t 1)),
    .op (some 26) none (.load none (.t 25)),
    .op (some 27) none (.mv (.t 6)),
    .op (some 28) none (.bin .mul (.c (.int .i64 8)) (.t 27)),
    .op (some 29) none (.bin .sub (.t 26) (.t 28)),
    .op (some 7) none (.mv (.t 29))]
def c18r9 : List AStm := [.op (some 31) none (.mv (.t 7)),
    .op (some 32) none (.bin .leq (.t 31) (.c (.int .i64 0))),
    .op (some 30) none (.mv (.t 32))]
def c18r10 : List AStm := [.op (some 33) none (.mv (.t 6)),
    .op (some 34) none (.ixa 16 1 (.t 5) (.t 33)),
    .op none none (.store 1 (.t 34) (.c (.int .u8 255)))]
def c18r11 : List AStm := [.op (some 36) none (.mv (.t 7)),
    .op (some 37) none (.bin .lss (.t 36) (.c (.int .i64 8))),
    .op (some 35) none (.mv (.t 37))]
def c18r12 : List AStm := [.op (some 38) none (.mv (.t 6)),
    .op (some 39) none (.ixa 16 1 (.t 5) (.t 38)),
    .op (some 40) none (.load none (.t 39)),
    .op (some 41) none (.mv (.t 7)),
    .op (some 42) none (.conv .u64 (.t 41)),
    .op (some 43) none (.bin .shr (.c (.int .u8 255)) (.t 42)),
    .op (some 44) none (.bin .or (.t 40) (.t 43)),
    .op (some 45) none (.ixa 16 1 (.t 5) (.t 38)),
    .op none none (.store 1 (.t 45) (.t 44))]
def c18r13 : List AStm := [.op (some 46) none (.bin .add (.t 22) (.c (.int .i64 1))),
    .op (some 22) none (.mv (.t 46))]
def c18l14 : AC := .seq (.reg c18r6) (.seq (.cond (.t 23) (.skip) (.exit 0)) (.seq (.block 1 (.seq (.reg c18r7) (.seq (.reg c18r8) (.block 2 (.seq (.reg c18r9) (.cond (.t 30) (.reg c18r10) (.seq (.reg c18r11) (.cond (.t 35) (.reg c18r12) (.skip))))))))) (.reg c18r13)))
def c18r15 : List AStm := [.op (some 47) none (.load (some 16) (.t 5)),
    .op none none (.store 16 (.t 2) (.t 47))]
def c18 : CF := ⟨.seq (.reg c18r0) (.seq (.seq (.reg c18r1) (.cond (.t 10) (.seq (.reg c18r2) (.ret)) (.skip))) (.seq (.reg c18r3) (.seq (.reg c18r4) (.seq (.seq (.reg c18r5) (.block 0 (.loop c18l14))) (.seq (.reg c18r15) (.ret)))))), [.cell 2 (some 16)], 48⟩
theorem cf18 : cfun Try.prog 18 = some c18 := by kernel_rfl



def lastB (b : UInt8) (left : Nat) : UInt8 := if left = 0 then 255 else if left < 8 then UInt8.ofNat (b.toNat ||| (255 >>> left)) else b
theorem lastB_lt (b : UInt8) (s : Nat) : b.toNat ||| (255 >>> s) < 256 := by
  refine Nat.or_lt_two_pow (n := 8) b.toNat_lt ?_
  rw [Nat.shiftRight_eq_div_pow]
  exact Nat.lt_of_le_of_lt (Nat.div_le_self _ _) (by omega)
theorem lastB_bit (b : UInt8) (left j : Nat) (hj : j < 8) : (lastB b left).toNat.testBit (7 - j) = (decide (left ≤ j) || b.toNat.testBit (7 - j)) := by
  unfold lastB
  by_cases h0 : left = 0
  · rw [if_pos h0, h0, show (255 : UInt8).toNat = 2 ^ 8 - 1 from rfl, Nat.testBit_two_pow_sub_one]
    simp; omega
  · rw [if_neg h0]
    by_cases h8 : left < 8
    · rw [if_pos h8, UInt8.toNat_ofNat_of_lt' (by exact lastB_lt _ _), Nat.testBit_or, Nat.testBit_shiftRight, show (255 : Nat) = 2 ^ 8 - 1 by rfl, Nat.testBit_two_pow_sub_one, Bool.or_comm]
      congr 1
      rw [decide_eq_decide]
      omega
    · rw [if_neg h8]
      have : ¬ left ≤ j := by omega
      simp [this]
/-- The first k bytes with all bits behind the first n. -/
def lastTo (a : List UInt8) (n k : Nat) : List UInt8 := (List.range 16).map fun i => if i < k then lastB (a.getD i 0) (n - 8 * i) else a.getD i 0
theorem lastTo_length (a : List UInt8) (n k : Nat) : (lastTo a n k).length = 16 := by simp [lastTo]
theorem lastTo_getD (a : List UInt8) (n k i : Nat) (h : i < 16) : (lastTo a n k).getD i 0 = if i < k then lastB (a.getD i 0) (n - 8 * i) else a.getD i 0 := by
  rw [List.getD_eq_getElem?_getD, lastTo, List.getElem?_map, List.getElem?_range h]; rfl
theorem lastTo_zero {a : List UInt8} (ha : a.length = 16) (n : Nat) : lastTo a n 0 = a := by
  refine bytes_ext (by rw [lastTo_length, ha]) fun i hi => ?_
  rw [lastTo_length] at hi
  rw [lastTo_getD _ _ _ _ hi, if_neg (by omega)]
theorem lastTo_set (a : List UInt8) (n k : Nat) (h : k < 16) : (lastTo a n k).set k (lastB (a.getD k 0) (n - 8 * k)) = lastTo a n (k + 1) := by
  refine bytes_ext (by rw [List.length_set, lastTo_length, lastTo_length]) fun i hi => ?_
  rw [List.length_set, lastTo_length] at hi
  rw [getD_set8, lastTo_length, lastTo_getD _ _ _ _ hi, lastTo_getD _ _ _ _ hi]
  by_cases e : k = i
  · subst e
    rw [if_pos ⟨rfl, h⟩, if_pos (by omega)]
  · rw [if_neg (by omega)]
    have : (i < k + 1) ↔ i < k := by omega
    simp only [this]
theorem lastTo_bit (a : List UInt8) (n k i : Nat) (hi : i < 128) : abit (lastTo a n k) i = if i / 8 < k then (decide (n ≤ i) || abit a i) else abit a i := by
  unfold abit
  rw [lastTo_getD _ _ _ _ (by omega)]
  split
  · rw [lastB_bit _ _ _ (by omega)]
    congr 1
    rw [decide_eq_decide]; omega
  · rfl
/-- The last address that has a prefix. -/
def lastF (v : Int) (a : List UInt8) (n : Int) : List UInt8 := if checkF v a n = 0 then lastTo a n.toNat ((mostN v).toNat / 8) else zeros 16
theorem lastF_length (v : Int) (a : List UInt8) (n : Int) : (lastF v a n).length = 16 := by
  unfold lastF; split
  · exact lastTo_length _ _ _
  · simp [zeros]
theorem plast_fc (h : Heap) (v n : Int) (a : List UInt8) (ha : a.length = 16) : FC Try.prog 18 [prefD v a n] h fun d h' => d = .agg (ofBytes (lastF v a n)) ∧ h' = h := by
  have p1 := pr_take ha [.int .i64 n]
  have p2 := pr_drop ha [.int .i64 n]
  have p3 := pr_len ha (.int .i64 n)
  have p4 := pr_one a n
  have p6 : List.take 17 (ofBytes a ++ [D.int .i64 n]) = ofBytes a ++ [D.int .i64 n] := List.take_of_length_le (by omega)
  have hbl : (ofBytes a).length = 16 := by rw [ofBytes_length, ha]
  have e := right_fc
  unfold prefD at e
  refine FC.goes cf18 ?_; simp only [c18]; simp only [List.length_cons, List.length_nil, Nat.reduceAdd, Nat.reduceSub, List.replicate_succ, List.replicate_zero, List.cons_append, List.nil_append]
  simp (disch := first | omega | (simp only [List.length_append, List.length_cons, List.length_nil]; omega)) only [c18r0, c18r1, c18r2, c18r3, c18r4, c18r5, c18r6, c18r7, c18r8, c18r9, c18r10, c18r11, c18r12, c18r13, c18l14, c18r15, prefD, p2, p3, p4, go_sem, ↓reduceIte, reduceCtorEq, Nat.reduceAdd, Nat.reduceSub, Nat.reducePow, Nat.reduceMul, Nat.reduceEqDiff, Nat.reduceLT, Nat.reduceLeDiff, Int.reduceToNat, Int.reduceLT, Int.reduceLE, Int.reduceEq, Int.reduceNeg, Int.reduceAdd, Int.reduceSub, Int.reduceMul]
  try rw [p6]
  refine gfc_of (e _ v n a ha) ?_
  rintro d h' ⟨rfl, e0⟩
  rw [e0]
  by_cases hc : checkF v a n = 0
  · simp (disch := first | omega | (simp only [List.length_append, List.length_cons, List.length_nil]; omega)) only [hc, go_sem, ↓reduceIte, reduceCtorEq, Nat.reduceAdd, Nat.reduceSub, Nat.reducePow, Nat.reduceMul, Nat.reduceEqDiff, Nat.reduceLT, Nat.reduceLeDiff, Int.reduceToNat, Int.reduceLT, Int.reduceLE, Int.reduceEq, Int.reduceNeg, Int.reduceAdd, Int.reduceSub, Int.reduceMul]
    refine gfc_of (pmost_fc _ v) ?_
    rintro d h' ⟨rfl, e0⟩
    rw [e0]
    have hf0 : fitsF v n = 0 := by
      unfold checkF at hc
      split at hc
      · rename_i h1; exact absurd hc h1
      · rename_i h1; simpa using h1
    obtain ⟨h0, h1⟩ := checkF_le hf0
    obtain ⟨n, rfl⟩ := Int.eq_ofNat_of_zero_le h0
    obtain ⟨m, hm⟩ : ∃ m, mostF v = some m := by
      unfold fitsF at hf0
      cases hm : mostF v with
      | none => rw [hm] at hf0; cases hf0
      | some m => exact ⟨m, rfl⟩
    have hm1 : mostN v = (m : Int) := by rw [mostN, hm]
    have hm2 := mostF_le hm
    have hlf : lastF v a (n : Int) = lastTo a n (m / 8) := by
      unfold lastF
      rw [if_pos hc, hm1]; rfl
    have p7 : List.take 16 (ofBytes a ++ [D.int .i64 (n : Int)]) = ofBytes a := p1
    have p9 : (ofBytes a ++ [D.int .i64 (n : Int)])[16]? = some (.int .i64 (n : Int)) := by
      rw [List.getElem?_append_right (by omega), hbl]; rfl
    have p8 : List.drop 16 (ofBytes a ++ [D.int .i64 (n : Int)]) = [.int .i64 (n : Int)] := p2
    rw [hlf, hm1]
    have eq8 : (((m : Nat) : Int)).tdiv 8 = ((m / 8 : Nat) : Int) := by rw [Int.ofNat_tdiv]; rfl
    have w8 : IntKind.i64.wrap ((m / 8 : Nat) : Int) = ((m / 8 : Nat) : Int) := w_i64 (by omega) (by omega)
    simp (disch := first | omega | (simp only [List.length_append, List.length_cons, List.length_nil]; omega)) only [fillD, splice0, hbl, p7, p3, p8, go_sem, ↓reduceIte, reduceCtorEq, Nat.reduceAdd, Nat.reduceSub, Nat.reducePow, Nat.reduceMul, Nat.reduceEqDiff, Nat.reduceLT, Nat.reduceLeDiff, Int.reduceToNat, Int.reduceLT, Int.reduceLE, Int.reduceEq, Int.reduceNeg, Int.reduceAdd, Int.reduceSub, Int.reduceMul]
    refine loop_to (m / 8) (fun k st => ∃ (j : Nat → D), st = ⟨(j 0 :: .ref h.length 0 :: .ref (h.length + 1) 0 :: j 3 :: j 4 :: .ref (h.length + 2) 0 :: j 6 :: j 7 :: j 8 :: j 9 :: j 10 :: j 11 :: j 12 :: j 13 :: j 14 :: j 15 :: j 16 :: j 17 :: j 18 :: j 19 :: j 20 :: .int .i64 ((m / 8 : Nat) : Int) :: .int .i64 (k : Int) :: j 23 :: j 24 :: j 25 :: j 26 :: j 27 :: j 28 :: j 29 :: j 30 :: j 31 :: j 32 :: j 33 :: j 34 :: j 35 :: j 36 :: j 37 :: j 38 :: j 39 :: j 40 :: j 41 :: j 42 :: j 43 :: j 44 :: j 45 :: j 46 :: j 47 :: []), h ++ [.box (.int .i64 v :: (ofBytes a ++ [.int .i64 (n : Int)])), .box (List.replicate 16 (.int .u8 0)), .box (ofBytes (lastTo a n k))]⟩) (by rw [lastTo_zero ha]; exact junk rfl) ?_
    rintro k st hk ⟨j, rfl⟩
    have hbl : (ofBytes (lastTo a n k)).length = 16 := by rw [ofBytes_length, lastTo_length]
    by_cases hk16 : k < m / 8
    · have hk' : (k : Int) < ((m / 8 : Nat) : Int) := by omega
      have hk1 : k < 16 := by omega
      have hk2 : (k : Int) < 16 := by omega
      have e1 : IntKind.i64.wrap (8 * (k : Int)) = ((8 * k : Nat) : Int) := by rw [w_i64 (by omega) (by omega)]; omega
      have e2 : IntKind.i64.wrap ((n : Int) - ((8 * k : Nat) : Int)) = (n : Int) - ((8 * k : Nat) : Int) := w_i64 (by omega) (by omega)
      have e5 : IntKind.i64.wrap ((k : Int) + 1) = ((k + 1 : Nat) : Int) := by rw [w_i64 (by omega) (by omega)]; omega
      have hset := lastTo_set a n k hk1
      by_cases h0 : (n : Int) - ((8 * k : Nat) : Int) ≤ 0
      · have hb : lastB (a.getD k 0) (n - 8 * k) = 255 := by
          have : n - 8 * k = 0 := by omega
          simp [lastB, this]
        simp (disch := first | omega | (simp only [List.length_append, List.length_cons, List.length_nil]; omega)) only [c18r0, c18r1, c18r2, c18r3, c18r4, c18r5, c18r6, c18r7, c18r8, c18r9, c18r10, c18r11, c18r12, c18r13, c18l14, c18r15, hk', hk2, e1, e2, h0, e5, hbl, p8, p9, go_sem, ↓reduceIte, reduceCtorEq, Nat.reduceAdd, Nat.reduceSub, Nat.reducePow, Nat.reduceMul, Nat.reduceEqDiff, Nat.reduceLT, Nat.reduceLeDiff, Int.reduceToNat, Int.reduceLT, Int.reduceLE, Int.reduceEq, Int.reduceNeg, Int.reduceAdd, Int.reduceSub, Int.reduceMul]
        refine ⟨hk16, ?_⟩
        rw [← hset, hb, ofBytes_put]
        exact junk rfl
      · by_cases h8 : (n : Int) - ((8 * k : Nat) : Int) < 8
        · obtain ⟨left, hl⟩ : ∃ left : Nat, n = 8 * k + left := ⟨n - 8 * k, by omega⟩
          have hl2 : n - 8 * k = left := by omega
          have hl3 : (n : Int) - ((8 * k : Nat) : Int) = (left : Int) := by omega
          rw [hl2] at hset
          rw [hl3] at e2 h0 h8
          have e2' : IntKind.i64.wrap ((n : Int) - ((8 * k : Nat) : Int)) = (left : Int) := by rw [hl3]; exact e2
          have e7 : IntKind.u64.wrap (left : Int) = (left : Int) := w_u64 (by omega) (by omega)
          have hg : (List.drop k (ofBytes (lastTo a n k)))[0]? = some (.int .u8 ((a.getD k 0).toNat : Int)) := by
            rw [List.getElem?_drop, Nat.add_zero, ofBytes_get, getB (by rw [lastTo_length]; omega), lastTo_getD _ _ _ _ hk1, if_neg (by omega)]; rfl
          have a1 : arith .shr (.int .u8 255) (.int .u64 (left : Int)) = some (.int .u8 ((255 >>> left : Nat) : Int)) := by
            have := ar_shrN (k := .u8) (k' := .u64) (x := 255) (b := (left : Int)) (by omega) (by rw [Int.toNat_natCast]; show left ≤ 8; omega)
            rw [Nat.shiftRight_eq_div_pow]
            exact this
          have h255 : 255 >>> left < 256 := by
            rw [Nat.shiftRight_eq_div_pow]
            exact Nat.lt_of_le_of_lt (Nat.div_le_self _ _) (by omega)
          have a2 : arith .or (.int .u8 ((a.getD k 0).toNat : Int)) (.int .u8 ((255 >>> left : Nat) : Int)) = some (.int .u8 (((a.getD k 0).toNat ||| (255 >>> left) : Nat) : Int)) := or_u8 (a.getD k 0).toNat_lt h255
          have hb : lastB (a.getD k 0) left = UInt8.ofNat ((a.getD k 0).toNat ||| (255 >>> left)) := by
            have h1 : ¬ left = 0 := by omega
            have h2 : left < 8 := by omega
            simp [lastB, h1, h2]
          have hbt : (UInt8.ofNat ((a.getD k 0).toNat ||| (255 >>> left))).toNat = (a.getD k 0).toNat ||| (255 >>> left) := UInt8.toNat_ofNat_of_lt' (by exact lastB_lt _ _)
          simp (disch := first | omega | (simp only [List.length_append, List.length_cons, List.length_nil]; omega)) only [c18r0, c18r1, c18r2, c18r3, c18r4, c18r5, c18r6, c18r7, c18r8, c18r9, c18r10, c18r11, c18r12, c18r13, c18l14, c18r15, hk', hk2, e1, e2', h0, h8, e5, e7, hbl, hg, a1, a2, p8, p9, go_sem, ↓reduceIte, reduceCtorEq, Nat.reduceAdd, Nat.reduceSub, Nat.reducePow, Nat.reduceMul, Nat.reduceEqDiff, Nat.reduceLT, Nat.reduceLeDiff, Int.reduceToNat, Int.reduceLT, Int.reduceLE, Int.reduceEq, Int.reduceNeg, Int.reduceAdd, Int.reduceSub, Int.reduceMul]
          refine ⟨hk16, ?_⟩
          rw [← hset, hb, ofBytes_put, hbt]
          exact junk rfl
        · have hb : lastB (a.getD k 0) (n - 8 * k) = a.getD k 0 := by
            have h1 : ¬ n - 8 * k = 0 := by omega
            have h2 : ¬ n - 8 * k < 8 := by omega
            unfold lastB
            rw [if_neg h1, if_neg h2]
          have hsame : lastTo a n (k + 1) = lastTo a n k := by
            rw [← hset, hb]
            refine bytes_ext (by simp) fun i hi => ?_
            rw [List.length_set, lastTo_length] at hi
            rw [getD_set8, lastTo_length]
            split
            · rename_i hc
              obtain ⟨rfl, _⟩ := hc
              rw [lastTo_getD _ _ _ _ hi, if_neg (by omega)]
            · rfl
          simp (disch := first | omega | (simp only [List.length_append, List.length_cons, List.length_nil]; omega)) only [c18r0, c18r1, c18r2, c18r3, c18r4, c18r5, c18r6, c18r7, c18r8, c18r9, c18r10, c18r11, c18r12, c18r13, c18l14, c18r15, hk', e1, e2, h0, h8, e5, p8, p9, go_sem, ↓reduceIte, reduceCtorEq, Nat.reduceAdd, Nat.reduceSub, Nat.reducePow, Nat.reduceMul, Nat.reduceEqDiff, Nat.reduceLT, Nat.reduceLeDiff, Int.reduceToNat, Int.reduceLT, Int.reduceLE, Int.reduceEq, Int.reduceNeg, Int.reduceAdd, Int.reduceSub, Int.reduceMul]
          refine ⟨hk16, ?_⟩
          rw [hsame]
          exact junk rfl
    · have hk' : ¬ (k : Int) < ((m / 8 : Nat) : Int) := by omega
      have : k = m / 8 := by omega
      subst this
      have htk : List.take 16 (ofBytes (lastTo a n (m / 8))) = ofBytes (lastTo a n (m / 8)) := List.take_of_length_le (by omega)
      simp (disch := first | omega | (simp only [List.length_append, List.length_cons, List.length_nil]; omega)) only [c18r0, c18r1, c18r2, c18r3, c18r4, c18r5, c18r6, c18r7, c18r8, c18r9, c18r10, c18r11, c18r12, c18r13, c18l14, c18r15, hk', hbl, htk, splice0, go_sem, ↓reduceIte, reduceCtorEq, Nat.reduceAdd, Nat.reduceSub, Nat.reducePow, Nat.reduceMul, Nat.reduceEqDiff, Nat.reduceLT, Nat.reduceLeDiff, Int.reduceToNat, Int.reduceLT, Int.reduceLE, Int.reduceEq, Int.reduceNeg, Int.reduceAdd, Int.reduceSub, Int.reduceMul]
      exact FinOk.drop (.inl rfl) (by simp [underL, underD, under_bytes]) ⟨rfl, rfl⟩
  · have hf : lastF v a n = zeros 16 := by unfold lastF; rw [if_neg hc]
    rw [hf]
    simp (disch := first | omega | (simp only [List.length_append, List.length_cons, List.length_nil]; omega)) only [hc, fillD, splice0, go_sem, ↓reduceIte, reduceCtorEq, Nat.reduceAdd, Nat.reduceSub, Nat.reducePow, Nat.reduceMul, Nat.reduceEqDiff, Nat.reduceLT, Nat.reduceLeDiff, Int.reduceToNat, Int.reduceLT, Int.reduceLE, Int.reduceEq, Int.reduceNeg, Int.reduceAdd, Int.reduceSub, Int.reduceMul]
    exact FinOk.drop (.inl rfl) (by simp [underL, underD]) ⟨rfl, rfl⟩
end Go.Proofs

/-
  Own work. The law TrieHas.
-/
namespace Go.Proofs
open Go Go.Ytecmopdncgekhaa
set_option linter.unusedVariables false
set_option linter.unusedSimpArgs false
set_option maxRecDepth 10000

/-! ### weighbridge/weighbridgelaw19.TrieHas, params 3 -/
def c5r0 : List AStm := [.op (some 4) none (.box (.t 1)),
    .op (some 6) none (.mv (.c (.bool false)))]
def c5r1 : List AStm := [.op (some 14) none (.mv (.t 0)),
    .call (some 15) none (.c (.fn (.func 6) [] [])) [(.t 14)],
    .op (some 13) none (.mv (.t 15)),
    .op (some 16) none (.ext (.t 13) 0),
    .op (some 17) none (.ext (.t 13) 1),
    .op (some 8) none (.alloc [(.int .i64 0), (.int .i64 0)]),
    .op (some 7) none (.mv (.t 16)),
    .op none none (.store 2 (.t 8) (.t 17))]
def c5r2 : List AStm := [.op (some 18) none (.mv (.t 7)),
    .op (some 19) none (.isnil false 1 (.t 18)),
    .op (some 20) none (.mv (.t 19)),
    .op (some 21) (some (20, false)) (.mv (.t 0)),
    .op (some 22) (some (20, false)) (.len false (.t 21)),
    .op (some 23) (some (20, false)) (.bin .eql (.t 22) (.c (.int .i64 0))),
    .op (some 24) none (.pick (.t 20) (.c (.bool true)) (.t 23))]
def c5r3 : List AStm := [.call (some 25) none (.c (.fn (.func 8) [] [])) [],
    .op (some 6) none (.mv (.t 25))]
def c5r4 : List AStm := [.op (some 26) none (.mv (.t 0)),
    .op (some 27) none (.mv (.t 2)),
    .op (some 28) none (.conv .i64 (.t 27)),
    .op (some 29) none (.mv (.t 0)),
    .op (some 30) none (.len false (.t 29)),
    .op (some 31) none (.bin .rem (.t 28) (.t 30)),
    .op (some 32) none (.ixs 18 (.t 26) (.t 31)),
    .op (some 33) none (.load (some 18) (.t 32)),
    .op (some 9) none (.alloc [(.int .i64 0), (.int .u8 0), (.int .u8 0), (.int .u8 0), (.int .u8 0), (.int .u8 0), (.int .u8 0), (.int .u8 0), (.int .u8 0), (.int .u8 0), (.int .u8 0), (.int .u8 0), (.int .u8 0), (.int .u8 0), (.int .u8 0), (.int .u8 0), (.int .u8 0), (.int .i64 0)]),
    .op none none (.store 18 (.t 9) (.t 33))]
def c5r5 : List AStm := []
def c5r6 : List AStm := [.op (some 34) none (.mv (.t 7)),
    .op (some 35) none (.faddr 0 (.t 9)),
    .op (some 36) none (.load none (.t 35)),
    .op (some 37) none (.faddr 1 (.t 9)),
    .op (some 38) none (.load (some 16) (.t 37)),
    .op (some 40) none (.mv (.t 2)),
    .op (some 41) none (.conv .i64 (.t 40)),
    .op (some 42) none (.mv (.t 0)),
    .op (some 43) none (.len false (.t 42)),
    .op (some 44) none (.bin .rem (.t 41) (.t 43)),
    .callG (some 39) none (.c (.fn (.func 11) [] [])) [(.t 34), (.t 36), (.t 38)],
    .callG (some 45) none (.c (.fn (.func 17) [] [])) [(.t 39), (.t 44)],
    .op (some 46) none (.un .not (.t 45)),
    .op (some 47) none (.mv (.t 46)),
    .op (some 48) (some (47, false)) (.mv (.t 7)),
    .op (some 49) (some (47, false)) (.faddr 0 (.t 9)),
    .op (some 50) (some (47, false)) (.load none (.t 49)),
    .op (some 51) (some (47, false)) (.load (some 18) (.t 9)),
    .op (some 54) (some (47, false)) (.mv (.t 2)),
    .op (some 55) (some (47, false)) (.conv .i64 (.t 54)),
    .op (some 56) (some (47, false)) (.mv (.t 0)),
    .op (some 57) (some (47, false)) (.len false (.t 56)),
    .op (some 58) (some (47, false)) (.bin .rem (.t 55) (.t 57)),
    .callG (some 52) (some (47, false)) (.c (.fn (.func 18) [] [])) [(.t 51)],
    .callG (some 53) (some (47, false)) (.c (.fn (.func 11) [] [])) [(.t 48), (.t 50), (.t 52)],
    .call (some 59) (some (47, false)) (.c (.fn (.func 17) [] [])) [(.t 53), (.t 58)],
    .op (some 60) (some (47, false)) (.un .not (.t 59)),
    .op (some 61) none (.pick (.t 47) (.c (.bool true)) (.t 60))]
def c5r7 : List AStm := [.op (some 6) none (.mv (.c (.bool false)))]
def c5r8 : List AStm := [.op (some 62) none (.mv (.t 7)),
    .op (some 63) none (.faddr 0 (.t 9)),
    .op (some 64) none (.load none (.t 63)),
    .op (some 65) none (.load (some 16) (.t 4)),
    .call (some 66) none (.c (.fn (.func 11) [] [])) [(.t 62), (.t 64), (.t 65)],
    .op (some 10) none (.mv (.t 66))]
def c5r9 : List AStm := [.op (some 67) none (.mv (.t 7)),
    .op (some 68) none (.faddr 0 (.t 9)),
    .op (some 69) none (.load none (.t 68)),
    .op (some 70) none (.load (some 16) (.t 4)),
    .call (some 71) none (.c (.fn (.func 13) [] [])) [(.t 67), (.t 69), (.t 70)],
    .op (some 11) none (.mv (.t 71))]
def c5r10 : List AStm := [.op (some 72) none (.mv (.t 11)),
    .op (some 73) none (.bin .lss (.t 72) (.c (.int .i64 0))),
    .op (some 74) none (.mv (.t 10)),
    .call (some 75) none (.c (.fn (.func 19) [] [])) [(.t 74)],
    .op (some 76) none (.bin .lss (.t 75) (.c (.int .i64 0))),
    .op (some 77) none (.eqb true (.t 73) (.t 76)),
    .op (some 78) none (.mv (.t 77)),
    .op (some 79) (some (78, false)) (.mv (.t 11)),
    .op (some 80) (some (78, false)) (.mv (.t 0)),
    .op (some 81) (some (78, false)) (.len false (.t 80)),
    .op (some 82) (some (78, false)) (.bin .geq (.t 79) (.t 81)),
    .op (some 83) none (.pick (.t 78) (.c (.bool true)) (.t 82)),
    .op (some 84) none (.mv (.t 83)),
    .op (some 85) (some (84, false)) (.mv (.t 11)),
    .op (some 86) (some (84, false)) (.bin .geq (.t 85) (.c (.int .i64 0))),
    .op (some 87) (some (84, false)) (.mv (.t 86)),
    .op (some 88) (some (87, true)) (.mv (.t 10)),
    .op (some 89) (some (87, true)) (.mv (.t 11)),
    .call (some 90) (some (87, true)) (.c (.fn (.func 17) [] [])) [(.t 88), (.t 89)],
    .op (some 91) (some (87, true)) (.un .not (.t 90)),
    .op (some 92) (some (84, false)) (.pick (.t 87) (.t 91) (.c (.bool false))),
    .op (some 93) none (.pick (.t 84) (.c (.bool true)) (.t 92))]
def c5r11 : List AStm := [.op (some 6) none (.mv (.c (.bool false)))]
def c5r12 : List AStm := [.op (some 12) none (.mv (.c (.int .i64 0)))]
def c5r13 : List AStm := [.op (some 94) none (.mv (.t 12)),
    .op (some 95) none (.mv (.t 0)),
    .op (some 96) none (.len false (.t 95)),
    .op (some 97) none (.bin .lss (.t 94) (.t 96))]
def c5r14 : List AStm := []
def c5r15 : List AStm := [.op (some 100) none (.mv (.t 10)),
    .op (some 101) none (.mv (.t 12)),
    .op (some 103) none (.mv (.t 0)),
    .op (some 104) none (.mv (.t 12)),
    .op (some 105) none (.ixs 18 (.t 103) (.t 104)),
    .op (some 106) none (.load (some 18) (.t 105)),
    .op (some 107) none (.faddr 0 (.t 9)),
    .op (some 108) none (.load none (.t 107)),
    .op (some 109) none (.load (some 16) (.t 4)),
    .callG (some 102) none (.c (.fn (.func 17) [] [])) [(.t 100), (.t 101)],
    .callG (some 110) none (.c (.fn (.func 20) [] [])) [(.t 106), (.t 108), (.t 109)],
    .op (some 111) none (.eqb true (.t 102) (.t 110)),
    .op (some 112) none (.mv (.t 111)),
    .op (some 113) (some (112, false)) (.mv (.t 10)),
    .op (some 114) (some (112, false)) (.mv (.t 12)),
    .callG (some 115) (some (112, false)) (.c (.fn (.func 17) [] [])) [(.t 113), (.t 114)],
    .op (some 116) (some (112, false)) (.mv (.t 115)),
    .op (some 117) (some (116, true)) (.mv (.t 0)),
    .op (some 118) (some (116, true)) (.mv (.t 12)),
    .op (some 119) (some (116, true)) (.ixs 18 (.t 117) (.t 118)),
    .op (some 120) (some (116, true)) (.faddr 17 (.t 119)),
    .op (some 121) (some (116, true)) (.load none (.t 120)),
    .op (some 122) (some (116, true)) (.mv (.t 0)),
    .op (some 123) (some (116, true)) (.mv (.t 11)),
    .op (some 124) (some (116, true)) (.ixs 18 (.t 122) (.t 123)),
    .op (some 125) (some (116, true)) (.faddr 17 (.t 124)),
    .op (some 126) (some (116, true)) (.load none (.t 125)),
    .op (some 127) (some (116, true)) (.bin .gtr (.t 121) (.t 126)),
    .op (some 128) (some (116, true)) (.mv (.t 127)),
    .op (some 129) (some (128, false)) (.mv (.t 0)),
    .op (some 130) (some (128, false)) (.mv (.t 12)),
    .op (some 131) (some (128, false)) (.ixs 18 (.t 129) (.t 130)),
    .op (some 132) (some (128, false)) (.faddr 17 (.t 131)),
    .op (some 133) (some (128, false)) (.load none (.t 132)),
    .op (some 134) (some (128, false)) (.mv (.t 0)),
    .op (some 135) (some (128, false)) (.mv (.t 11)),
    .op (some 136) (some (128, false)) (.ixs 18 (.t 134) (.t 135)),
    .op (some 137) (some (128, false)) (.faddr 17 (.t 136)),
    .op (some 138) (some (128, false)) (.load none (.t 137)),
    .op (some 139) (some (128, false)) (.bin .eql (.t 133) (.t 138)),
    .op (some 140) (some (128, false)) (.mv (.t 139)),
    .op (some 141) (some (140, true)) (.mv (.t 12)),
    .op (some 142) (some (140, true)) (.mv (.t 11)),
    .op (some 143) (some (140, true)) (.bin .lss (.t 141) (.t 142)),
    .op (some 144) (some (128, false)) (.pick (.t 140) (.t 143) (.c (.bool false))),
    .op (some 145) (some (116, true)) (.pick (.t 128) (.c (.bool true)) (.t 144)),
    .op (some 146) (some (112, false)) (.pick (.t 116) (.t 145) (.c (.bool false))),
    .op (some 147) none (.pick (.t 112) (.c (.bool true)) (.t 146))]
def c5r16 : List AStm := [.op (some 6) none (.mv (.c (.bool false)))]
def c5r17 : List AStm := [.op (some 98) none (.mv (.t 12)),
    .op (some 99) none (.bin .add (.t 98) (.c (.int .i64 1))),
    .op (some 12) none (.mv (.t 99))]
def c5l18 : AC := .seq (.seq (.reg c5r13) (.cond (.t 97) (.skip) (.exit 0))) (.seq (.block 1 (.seq (.dreg c5r14 c5r15) (.cond (.t 147) (.seq (.reg c5r16) (.ret)) (.skip)))) (.reg c5r17))
def c5r19 : List AStm := [.call (some 148) none (.c (.fn (.func 8) [] [])) [],
    .op (some 6) none (.mv (.t 148))]
def c5 : CF := ⟨.seq (.reg c5r0) (.seq (.reg c5r1) (.seq (.seq (.reg c5r2) (.cond (.t 24) (.seq (.reg c5r3) (.ret)) (.skip))) (.seq (.reg c5r4) (.seq (.seq (.dreg c5r5 c5r6) (.cond (.t 61) (.seq (.reg c5r7) (.ret)) (.skip))) (.seq (.reg c5r8) (.seq (.reg c5r9) (.seq (.seq (.reg c5r10) (.cond (.t 93) (.seq (.reg c5r11) (.ret)) (.skip))) (.seq (.seq (.reg c5r12) (.block 0 (.loop c5l18))) (.seq (.reg c5r19) (.ret)))))))))), [.tmp 6], 149⟩
theorem cf5 : cfun Try.prog 5 = some c5 := by kernel_rfl



theorem find19_len (l : List Pf) (v : Int) (a : List UInt8) : (find19 l v a).length = (l.length + 63) / 64 := by rw [find19, putL_length]
theorem find19_has {l : List Pf} {v : Int} {a : List UInt8} (i : Nat) (hi : i < l.length) : hasB (find19 l v a) i = hasAt l v a i := by
  have b2 : ∀ k ∈ idxB (hasAt l v a) l.length, k < 64 * (List.replicate ((l.length + 63) / 64) 0).length := fun k hk => by
    have := (idxB_mem.1 hk).1
    rw [List.length_replicate]; omega
  rw [find19, putL, putF_has i _ _ b2, zero_has, Bool.false_or, Bool.eq_iff_iff, decide_eq_true_eq, idxB_mem]
  exact ⟨fun h => h.2, fun h => ⟨hi, h⟩⟩
theorem find19_not {l : List Pf} {v : Int} {a : List UInt8} (i : Nat) (hi : hasB (find19 l v a) i = true) : i < l.length ∧ hasAt l v a i = true := by
  have b2 : ∀ k ∈ idxB (hasAt l v a) l.length, k < 64 * (List.replicate ((l.length + 63) / 64) 0).length := fun k hk => by
    have := (idxB_mem.1 hk).1
    rw [List.length_replicate]; omega
  rw [find19, putL, putF_has i _ _ b2, zero_has, Bool.false_or, decide_eq_true_eq, idxB_mem] at hi
  exact hi
theorem find19_hasR {l : List Pf} {v : Int} {a : List UInt8} (i : Nat) (hi : i < l.length) : hasR (find19 l v a) (i : Int) = hasAt l v a i := by
  unfold hasR insR
  rw [find19_len, Int.toNat_natCast, find19_has i hi, decide_eq_true (show 0 ≤ (i : Int) ∧ i / 64 < (l.length + 63) / 64 by omega), Bool.true_and]
theorem find19_words (l : List Pf) (v : Int) (a : List UInt8) : Words (find19 l v a) := putL_words _ _
theorem find19_first {l : List Pf} {v : Int} {a : List UInt8} : decide (firstB (find19 l v a) < 0) = decide (best19 l v a l.length < 0) := by
  rw [decide_eq_decide]
  unfold firstB
  rcases best19_best l v a l.length with ⟨e, hno⟩ | ⟨b, e, hb, _⟩
  · cases ho : onesL (find19 l v a) with
    | nil => simp [e]
    | cons x t =>
      exfalso
      have hx : x ∈ onesL (find19 l v a) := by rw [ho]; simp
      exact hno x (find19_not x (onesL_mem.1 hx).2)
  · cases ho : onesL (find19 l v a) with
    | nil =>
      exfalso
      have : b ∈ onesL (find19 l v a) := onesL_mem.2 ⟨by rw [find19_len]; omega, by rw [find19_has b hb.1]; exact hb.2⟩
      rw [ho] at this; simp at this
    | cons x t =>
      show (x : Int) < 0 ↔ _
      rw [e]; omega
theorem last_has {p : Pf} (h : p.chk = 0) (ha : p.a.length = 16) : hasF p.v p.a p.n p.v (lastF p.v p.a p.n) = true := by
  rw [has_iff h]
  refine ⟨rfl, ?_⟩
  have h' : checkF p.v p.a p.n = 0 := h
  have hn := (chk_good h).2.2.1
  rw [path_eq]
  intro i hi
  unfold lastF
  rw [if_pos h', lastTo_bit _ _ _ _ (by omega)]
  have : ¬ p.n.toNat ≤ i := by omega
  split <;> simp [this]
set_option maxHeartbeats 4000000 in
theorem thas_fc (h : Heap) (lD : D) (l : List Pf) (hs : ∀ h, SlOf h 18 lD (pfs l) l.length) (ha : Addrs l) (hlen : l.length ≤ 1048576) (a : List UInt8) (hal : a.length = 16) (n : Nat) (hn : n < 256) :
    FC Try.prog 5 [lD, .agg (ofBytes a), .int .u8 (n : Int)] h fun d h' => d = .bool true ∧ h' = h := by
  have hal2 : (ofBytes a).length = 16 := by rw [ofBytes_length, hal]
  have p7 : List.take 16 (ofBytes a) = ofBytes a := List.take_of_length_le (by omega)
  have l16 : 16 ≤ (ofBytes a).length := by omega
  refine FC.goes cf5 ?_; simp only [c5]; simp only [List.length_cons, List.length_nil, Nat.reduceAdd, Nat.reduceSub, List.replicate_succ, List.replicate_zero, List.cons_append, List.nil_append]
  simp (disch := first | omega | (simp only [List.length_append, List.length_cons, List.length_nil]; omega)) only [c5r0, c5r1, c5r2, c5r3, c5r4, c5r5, c5r6, c5r7, c5r8, c5r9, c5r10, c5r11, c5r12, c5r13, c5r14, c5r15, c5r16, c5r17, c5l18, c5r19, go_sem, ↓reduceIte, reduceCtorEq, Nat.reduceAdd, Nat.reduceSub, Nat.reducePow, Nat.reduceMul, Nat.reduceEqDiff, Nat.reduceLT, Nat.reduceLeDiff, Int.reduceToNat, Int.reduceLT, Int.reduceLE, Int.reduceEq, Int.reduceNeg, Int.reduceAdd, Int.reduceSub, Int.reduceMul]
  have E0 : Ext h (h ++ [.box (ofBytes a)]) := ⟨_, rfl⟩
  have bA := last_get h (.box (ofBytes a))
  generalize h ++ [.box (ofBytes a)] = h0 at *
  refine gfc_of (tnew_md h0 lD l (hs _) ha hlen) ?_
  rintro d h1 ⟨E1, hc⟩
  obtain ⟨f1, f2, hf⟩ : ∃ f1 f2, chkPs l = (f1, f2) := ⟨_, _, rfl⟩
  rw [hf] at hc
  rcases hc with ⟨hbad, rfl⟩ | ⟨hok, T, rfl, t⟩
  · simp (disch := first | omega | (simp only [List.length_append, List.length_cons, List.length_nil]; omega)) only [fillD, splice0, go_sem, ↓reduceIte, reduceCtorEq, Nat.reduceAdd, Nat.reduceSub, Nat.reducePow, Nat.reduceMul, Nat.reduceEqDiff, Nat.reduceLT, Nat.reduceLeDiff, Int.reduceToNat, Int.reduceLT, Int.reduceLE, Int.reduceEq, Int.reduceNeg, Int.reduceAdd, Int.reduceSub, Int.reduceMul]
    refine gfc_of (live19 _) ?_
    rintro d h' ⟨rfl, e⟩
    rw [e]
    simp (disch := first | omega | (simp only [List.length_append, List.length_cons, List.length_nil]; omega)) only [go_sem, ↓reduceIte, reduceCtorEq, Nat.reduceAdd, Nat.reduceSub, Nat.reducePow, Nat.reduceMul, Nat.reduceEqDiff, Nat.reduceLT, Nat.reduceLeDiff, Int.reduceToNat, Int.reduceLT, Int.reduceLE, Int.reduceEq, Int.reduceNeg, Int.reduceAdd, Int.reduceSub, Int.reduceMul]
    exact fin_ext ((E0.trans E1).trans ⟨_, rfl⟩) rfl ⟨rfl, rfl⟩
  · obtain ⟨cT, bT⟩ := t.isbox
    have bT' : ∀ L : Heap, (h1 ++ L)[T]? = some (.box cT) := fun L => (Ext.app (Ext.refl h1) L).get bT
    have ln : ∀ H : Heap, lenD H lD = some l.length := fun H => (hs H).lend
    have so := (hs h1).sort
    by_cases hl0 : l.length = 0
    · have hl0' : (l.length : Int) = 0 := by omega
      simp (disch := first | omega | (simp only [List.length_append, List.length_cons, List.length_nil]; omega)) only [fillD, splice0, bT', ln, so, hl0', go_sem, ↓reduceIte, reduceCtorEq, Nat.reduceAdd, Nat.reduceSub, Nat.reducePow, Nat.reduceMul, Nat.reduceEqDiff, Nat.reduceLT, Nat.reduceLeDiff, Int.reduceToNat, Int.reduceLT, Int.reduceLE, Int.reduceEq, Int.reduceNeg, Int.reduceAdd, Int.reduceSub, Int.reduceMul]
      refine gfc_of (live19 _) ?_
      rintro d h' ⟨rfl, e⟩
      rw [e]
      simp (disch := first | omega | (simp only [List.length_append, List.length_cons, List.length_nil]; omega)) only [go_sem, ↓reduceIte, reduceCtorEq, Nat.reduceAdd, Nat.reduceSub, Nat.reducePow, Nat.reduceMul, Nat.reduceEqDiff, Nat.reduceLT, Nat.reduceLeDiff, Int.reduceToNat, Int.reduceLT, Int.reduceLE, Int.reduceEq, Int.reduceNeg, Int.reduceAdd, Int.reduceSub, Int.reduceMul]
      exact fin_ext ((E0.trans E1).trans ⟨_, rfl⟩) rfl ⟨rfl, rfl⟩
    · have hl0' : ¬ (l.length : Int) = 0 := by omega
      have hidx : n % l.length < l.length := Nat.mod_lt _ (by omega)
      obtain ⟨p, cs, e1, e2, e3, e4⟩ := pf_elem (hs (h1 ++ [.box [.int .i64 0, .int .i64 0]])) ha hidx
      have hrem : (((n : Nat) : Int)).tmod (l.length : Int) = ((n % l.length : Nat) : Int) := (Int.ofNat_tmod n l.length).symm
      have wn : IntKind.i64.wrap (n : Int) = (n : Int) := w_i64 (by omega) (by omega)
      have wr : IntKind.i64.wrap ((n % l.length : Nat) : Int) = ((n % l.length : Nat) : Int) := w_i64 (by omega) (by have := t.len; omega)
      have hPa := ha.at (n % l.length)
      have hPg := t.good _ hidx
      have hPh : hasAt l (pfAt l (n % l.length)).v (pfAt l (n % l.length)).a (n % l.length) = true := by
        unfold hasAt; rw [has_iff hPg]; exact ⟨rfl, rfl⟩
      have hPl : hasAt l (pfAt l (n % l.length)).v (lastF (pfAt l (n % l.length)).v (pfAt l (n % l.length)).a (pfAt l (n % l.length)).n) (n % l.length) = true := last_has hPg hPa
      generalize hP : pfAt l (n % l.length) = P at *
      have hc18 := Pf.cells_length hPa
      have hone : P.cells.all D.one = true := by rw [Pf.cells, List.all_cons, pr_one]; rfl
      have htk : P.cells.take 18 = P.cells := List.take_of_length_le (by omega)
      have hc0 : P.cells[0]? = some (.int .i64 P.v) := rfl
      have hca := Pf.addr hPa
      have hl1 : 16 ≤ (P.cells.drop 1).length := by rw [List.length_drop, hc18]; omega
      simp (disch := first | omega | (simp only [List.length_append, List.length_cons, List.length_nil]; omega)) only [fillD, splice0, bT', ln, so, hl0', wn, wr, hrem, e1, e2, e3, e4, hone, hc18, hc0, hca, hl1, go_sem, ↓reduceIte, reduceCtorEq, Nat.reduceAdd, Nat.reduceSub, Nat.reducePow, Nat.reduceMul, Nat.reduceEqDiff, Nat.reduceLT, Nat.reduceLeDiff, Int.reduceToNat, Int.reduceLT, Int.reduceLE, Int.reduceEq, Int.reduceNeg, Int.reduceAdd, Int.reduceSub, Int.reduceMul]
      have E2 : Ext h1 (h1 ++ [.box [.int .i64 0, .int .i64 0], .box P.cells]) := ⟨_, rfl⟩
      have bA2 := (E1.trans E2).get bA
      have bP2 : (h1 ++ [.box [.int .i64 0, .int .i64 0], .box P.cells])[h1.length + 1]? = some (.box P.cells) := by simp (disch := first | omega | (simp only [List.length_append, List.length_cons, List.length_nil]; omega)) only [go_sem, ↓reduceIte, reduceCtorEq, Nat.reduceAdd, Nat.reduceSub, Nat.reducePow, Nat.reduceMul, Nat.reduceEqDiff, Nat.reduceLT, Nat.reduceLeDiff, Int.reduceToNat, Int.reduceLT, Int.reduceLE, Int.reduceEq, Int.reduceNeg, Int.reduceAdd, Int.reduceSub, Int.reduceMul]
      have t2 := t.ext E2
      generalize hH2 : h1 ++ [.box [.int .i64 0, .int .i64 0], .box P.cells] = h2 at *
      generalize h1.length + 1 = Q at *
      clear bT'
      refine xfc_of (tfind_md _ l T t2 P.v P.a hPa) ?_
      rintro d3 h3 ⟨E3, r3⟩
      refine ⟨E3, ?_⟩
      have wh := find19_words l P.v P.a
      have hr1 := find19_hasR (l := l) (v := P.v) (a := P.a) _ hidx
      rw [hPh] at hr1
      simp (disch := first | omega | (simp only [List.length_append, List.length_cons, List.length_nil]; omega)) only [go_sem, ↓reduceIte, reduceCtorEq, Nat.reduceAdd, Nat.reduceSub, Nat.reducePow, Nat.reduceMul, Nat.reduceEqDiff, Nat.reduceLT, Nat.reduceLeDiff, Int.reduceToNat, Int.reduceLT, Int.reduceLE, Int.reduceEq, Int.reduceNeg, Int.reduceAdd, Int.reduceSub, Int.reduceMul]
      refine xfc_of (has_fc _ d3 _ r3 wh ((n % l.length : Nat) : Int) (by omega) (by have := t.len; omega)) ?_
      rw [hr1]
      rintro d h' ⟨rfl, e⟩
      refine ⟨⟨[], by rw [e, List.append_nil]⟩, ?_⟩
      rw [e]
      have bP3 := E3.get bP2
      have so3 := (hs h3).sort
      simp (disch := first | omega | (simp only [List.length_append, List.length_cons, List.length_nil]; omega)) only [bP3, hc0, htk, hc18, ln, so3, wn, wr, hrem, hl0', go_sem, ↓reduceIte, reduceCtorEq, Nat.reduceAdd, Nat.reduceSub, Nat.reducePow, Nat.reduceMul, Nat.reduceEqDiff, Nat.reduceLT, Nat.reduceLeDiff, Int.reduceToNat, Int.reduceLT, Int.reduceLE, Int.reduceEq, Int.reduceNeg, Int.reduceAdd, Int.reduceSub, Int.reduceMul]
      have hlast : FC Try.prog 18 [.agg P.cells] h3 fun d h' => d = .agg (ofBytes (lastF P.v P.a P.n)) ∧ h' = h3 := plast_fc _ P.v P.n P.a hPa
      refine xfc_of hlast ?_
      rintro d h' ⟨rfl, e⟩
      refine ⟨⟨[], by rw [e, List.append_nil]⟩, ?_⟩
      rw [e]
      simp (disch := first | omega | (simp only [List.length_append, List.length_cons, List.length_nil]; omega)) only [go_sem, ↓reduceIte, reduceCtorEq, Nat.reduceAdd, Nat.reduceSub, Nat.reducePow, Nat.reduceMul, Nat.reduceEqDiff, Nat.reduceLT, Nat.reduceLeDiff, Int.reduceToNat, Int.reduceLT, Int.reduceLE, Int.reduceEq, Int.reduceNeg, Int.reduceAdd, Int.reduceSub, Int.reduceMul]
      refine xfc_of (tfind_md _ l T (t2.ext E3) P.v _ (lastF_length P.v P.a P.n)) ?_
      rintro d4 h4 ⟨E4, r4⟩
      refine ⟨E4, ?_⟩
      have hr2 := find19_hasR (l := l) (v := P.v) (a := lastF P.v P.a P.n) _ hidx
      rw [hPl] at hr2
      simp (disch := first | omega | (simp only [List.length_append, List.length_cons, List.length_nil]; omega)) only [go_sem, ↓reduceIte, reduceCtorEq, Nat.reduceAdd, Nat.reduceSub, Nat.reducePow, Nat.reduceMul, Nat.reduceEqDiff, Nat.reduceLT, Nat.reduceLeDiff, Int.reduceToNat, Int.reduceLT, Int.reduceLE, Int.reduceEq, Int.reduceNeg, Int.reduceAdd, Int.reduceSub, Int.reduceMul]
      refine gfc_of (has_fc _ d4 _ r4 (find19_words _ _ _) ((n % l.length : Nat) : Int) (by omega) (by have := t.len; omega)) ?_
      rw [hr2]
      rintro d h' ⟨rfl, e⟩
      rw [e]
      have bP4 := E4.get bP3
      have bA4 := (E3.trans E4).get bA2
      have t4 := (t2.ext E3).ext E4
      simp (disch := first | omega | (simp only [List.length_append, List.length_cons, List.length_nil]; omega)) only [bP4, hc0, bA4, p7, l16, go_sem, ↓reduceIte, reduceCtorEq, Nat.reduceAdd, Nat.reduceSub, Nat.reducePow, Nat.reduceMul, Nat.reduceEqDiff, Nat.reduceLT, Nat.reduceLeDiff, Int.reduceToNat, Int.reduceLT, Int.reduceLE, Int.reduceEq, Int.reduceNeg, Int.reduceAdd, Int.reduceSub, Int.reduceMul]
      refine gfc_of (tfind_md _ l T t4 P.v a hal) ?_
      rintro d5 h5 ⟨E5, r5⟩
      have bP5 := E5.get bP4
      have bA5 := E5.get bA4
      have t5 := t4.ext E5
      simp (disch := first | omega | (simp only [List.length_append, List.length_cons, List.length_nil]; omega)) only [bP5, hc0, bA5, p7, l16, go_sem, ↓reduceIte, reduceCtorEq, Nat.reduceAdd, Nat.reduceSub, Nat.reducePow, Nat.reduceMul, Nat.reduceEqDiff, Nat.reduceLT, Nat.reduceLeDiff, Int.reduceToNat, Int.reduceLT, Int.reduceLE, Int.reduceEq, Int.reduceNeg, Int.reduceAdd, Int.reduceSub, Int.reduceMul]
      refine gfc_of (tlong_md _ l T t5 P.v a hal) ?_
      rintro d h' ⟨rfl, e⟩
      rw [e]
      simp (disch := first | omega | (simp only [List.length_append, List.length_cons, List.length_nil]; omega)) only [go_sem, ↓reduceIte, reduceCtorEq, Nat.reduceAdd, Nat.reduceSub, Nat.reducePow, Nat.reduceMul, Nat.reduceEqDiff, Nat.reduceLT, Nat.reduceLeDiff, Int.reduceToNat, Int.reduceLT, Int.reduceLE, Int.reduceEq, Int.reduceNeg, Int.reduceAdd, Int.reduceSub, Int.reduceMul]
      have hwl : (find19 l P.v a).length ≤ 1048576 := by rw [find19_len]; omega
      refine gfc_of (first_fc _ d5 _ r5 hwl (find19_words _ _ _)) ?_
      rintro d h' ⟨rfl, e⟩
      rw [e]
      have hfst := find19_first (l := l) (v := P.v) (a := a)
      have hbl := best19_le l P.v a l.length
      have hbb := best19_best l P.v a l.length
      have hhas := fun i hi => find19_hasR (l := l) (v := P.v) (a := a) i hi
      generalize best19 l P.v a l.length = b at *
      generalize hfB : firstB (find19 l P.v a) = fb at *
      have so5 := (hs h5).sort
      have hgeq : ¬ (l.length : Int) ≤ b := by omega
      rcases hbb with ⟨rfl, hno⟩ | ⟨b, rfl, hb, hbest⟩
      · have hfb : fb < 0 := by simpa using hfst
        simp (disch := first | omega | (simp only [List.length_append, List.length_cons, List.length_nil]; omega)) only [hfb, hgeq, ln, so5, go_sem, ↓reduceIte, reduceCtorEq, Nat.reduceAdd, Nat.reduceSub, Nat.reducePow, Nat.reduceMul, Nat.reduceEqDiff, Nat.reduceLT, Nat.reduceLeDiff, Int.reduceToNat, Int.reduceLT, Int.reduceLE, Int.reduceEq, Int.reduceNeg, Int.reduceAdd, Int.reduceSub, Int.reduceMul]
        refine loop_to l.length (fun k st => ∃ (j : Nat → D), st = ⟨(lD :: j 1 :: j 2 :: j 3 :: .ref h.length 0 :: j 5 :: j 6 :: .ref T 0 :: j 8 :: .ref Q 0 :: d5 :: .int .i64 (-1) :: .int .i64 (k : Int) :: j 13 :: j 14 :: j 15 :: j 16 :: j 17 :: j 18 :: j 19 :: j 20 :: j 21 :: j 22 :: j 23 :: j 24 :: j 25 :: j 26 :: j 27 :: j 28 :: j 29 :: j 30 :: j 31 :: j 32 :: j 33 :: j 34 :: j 35 :: j 36 :: j 37 :: j 38 :: j 39 :: j 40 :: j 41 :: j 42 :: j 43 :: j 44 :: j 45 :: j 46 :: j 47 :: j 48 :: j 49 :: j 50 :: j 51 :: j 52 :: j 53 :: j 54 :: j 55 :: j 56 :: j 57 :: j 58 :: j 59 :: j 60 :: j 61 :: j 62 :: j 63 :: j 64 :: j 65 :: j 66 :: j 67 :: j 68 :: j 69 :: j 70 :: j 71 :: j 72 :: j 73 :: j 74 :: j 75 :: j 76 :: j 77 :: j 78 :: j 79 :: j 80 :: j 81 :: j 82 :: j 83 :: j 84 :: j 85 :: j 86 :: j 87 :: j 88 :: j 89 :: j 90 :: j 91 :: j 92 :: j 93 :: j 94 :: j 95 :: j 96 :: j 97 :: j 98 :: j 99 :: j 100 :: j 101 :: j 102 :: j 103 :: j 104 :: j 105 :: j 106 :: j 107 :: j 108 :: j 109 :: j 110 :: j 111 :: j 112 :: j 113 :: j 114 :: j 115 :: j 116 :: j 117 :: j 118 :: j 119 :: j 120 :: j 121 :: j 122 :: j 123 :: j 124 :: j 125 :: j 126 :: j 127 :: j 128 :: j 129 :: j 130 :: j 131 :: j 132 :: j 133 :: j 134 :: j 135 :: j 136 :: j 137 :: j 138 :: j 139 :: j 140 :: j 141 :: j 142 :: j 143 :: j 144 :: j 145 :: j 146 :: j 147 :: j 148 :: []), h5⟩) (junk rfl) ?_
        rintro k st hk ⟨j, rfl⟩
        by_cases hkn : k < l.length
        · have hkn' : (k : Int) < l.length := by omega
          obtain ⟨p5, cs5, x1, x2, x3, x4⟩ := pf_elem (hs h5) ha hkn
          obtain ⟨q5, y1, y2⟩ := fa_of x2 17
          have c5 := cells_n (ha.at k) x3
          have wk : IntKind.i64.wrap ((k : Int) + 1) = ((k + 1 : Nat) : Int) := by rw [w_i64 (by omega) (by omega)]; omega
          have hki := hhas k hkn
          have hph : FC Try.prog 20 [.agg (pfAt l k).cells, .int .i64 P.v, .agg (ofBytes a)] h5 fun d h' => d = .bool (hasAt l P.v a k) ∧ h' = h5 := phas_fc _ (pfAt l k).v (pfAt l k).n P.v (pfAt l k).a a (ha.at k) hal
          simp (disch := first | omega | (simp only [List.length_append, List.length_cons, List.length_nil]; omega)) only [c5r0, c5r1, c5r2, c5r3, c5r4, c5r5, c5r6, c5r7, c5r8, c5r9, c5r10, c5r11, c5r12, c5r13, c5r14, c5r15, c5r16, c5r17, c5l18, c5r19, ln, so5, hkn', x1, x2, x3, x4, bP5, hc0, bA5, p7, l16, go_sem, ↓reduceIte, reduceCtorEq, Nat.reduceAdd, Nat.reduceSub, Nat.reducePow, Nat.reduceMul, Nat.reduceEqDiff, Nat.reduceLT, Nat.reduceLeDiff, Int.reduceToNat, Int.reduceLT, Int.reduceLE, Int.reduceEq, Int.reduceNeg, Int.reduceAdd, Int.reduceSub, Int.reduceMul]
          refine xfc_of (has_fc _ d5 _ r5 (find19_words _ _ _) (k : Int) (by omega) (by omega)) ?_
          rw [hki]
          rintro d h' ⟨rfl, e⟩
          refine ⟨⟨[], by rw [e, List.append_nil]⟩, ?_⟩
          rw [e]
          simp (disch := first | omega | (simp only [List.length_append, List.length_cons, List.length_nil]; omega)) only [go_sem, ↓reduceIte, reduceCtorEq, Nat.reduceAdd, Nat.reduceSub, Nat.reducePow, Nat.reduceMul, Nat.reduceEqDiff, Nat.reduceLT, Nat.reduceLeDiff, Int.reduceToNat, Int.reduceLT, Int.reduceLE, Int.reduceEq, Int.reduceNeg, Int.reduceAdd, Int.reduceSub, Int.reduceMul]
          refine xfc_of hph ?_
          rintro d h' ⟨rfl, e⟩
          refine ⟨⟨[], by rw [e, List.append_nil]⟩, ?_⟩
          rw [e]
          have hxx : ∀ x : Bool, (!(x == x)) = false := by decide
          simp (disch := first | omega | (simp only [List.length_append, List.length_cons, List.length_nil]; omega)) only [bne_self_eq_false, hxx, go_sem, ↓reduceIte, reduceCtorEq, Nat.reduceAdd, Nat.reduceSub, Nat.reducePow, Nat.reduceMul, Nat.reduceEqDiff, Nat.reduceLT, Nat.reduceLeDiff, Int.reduceToNat, Int.reduceLT, Int.reduceLE, Int.reduceEq, Int.reduceNeg, Int.reduceAdd, Int.reduceSub, Int.reduceMul]
          refine xfc_of (has_fc _ d5 _ r5 (find19_words _ _ _) (k : Int) (by omega) (by omega)) ?_
          rw [hki]
          rintro d h' ⟨rfl, e⟩
          refine ⟨⟨[], by rw [e, List.append_nil]⟩, ?_⟩
          rw [e]
          have hno2 : hasAt l P.v a k = false := by
            cases hh : hasAt l P.v a k with
            | false => rfl
            | true => exact absurd ⟨hkn, hh⟩ (hno k)
          rw [hno2]
          simp (disch := first | omega | (simp only [List.length_append, List.length_cons, List.length_nil]; omega)) only [wk, go_sem, ↓reduceIte, reduceCtorEq, Nat.reduceAdd, Nat.reduceSub, Nat.reducePow, Nat.reduceMul, Nat.reduceEqDiff, Nat.reduceLT, Nat.reduceLeDiff, Int.reduceToNat, Int.reduceLT, Int.reduceLE, Int.reduceEq, Int.reduceNeg, Int.reduceAdd, Int.reduceSub, Int.reduceMul]
          exact ⟨hkn, junk rfl⟩
        · have hkn' : ¬ (k : Int) < l.length := by omega
          simp (disch := first | omega | (simp only [List.length_append, List.length_cons, List.length_nil]; omega)) only [c5r0, c5r1, c5r2, c5r3, c5r4, c5r5, c5r6, c5r7, c5r8, c5r9, c5r10, c5r11, c5r12, c5r13, c5r14, c5r15, c5r16, c5r17, c5l18, c5r19, ln, so5, hkn', go_sem, ↓reduceIte, reduceCtorEq, Nat.reduceAdd, Nat.reduceSub, Nat.reducePow, Nat.reduceMul, Nat.reduceEqDiff, Nat.reduceLT, Nat.reduceLeDiff, Int.reduceToNat, Int.reduceLT, Int.reduceLE, Int.reduceEq, Int.reduceNeg, Int.reduceAdd, Int.reduceSub, Int.reduceMul]
          refine gfc_of (live19 _) ?_
          rintro d h' ⟨rfl, e⟩
          rw [e]
          simp (disch := first | omega | (simp only [List.length_append, List.length_cons, List.length_nil]; omega)) only [go_sem, ↓reduceIte, reduceCtorEq, Nat.reduceAdd, Nat.reduceSub, Nat.reducePow, Nat.reduceMul, Nat.reduceEqDiff, Nat.reduceLT, Nat.reduceLeDiff, Int.reduceToNat, Int.reduceLT, Int.reduceLE, Int.reduceEq, Int.reduceNeg, Int.reduceAdd, Int.reduceSub, Int.reduceMul]
          exact fin_ext (E0.trans (E1.trans (E2.trans (E3.trans (E4.trans E5))))) rfl ⟨rfl, rfl⟩
      · have hfb : ¬ fb < 0 := by
          have : ¬ (b : Int) < 0 := by omega
          simpa [this] using hfst
        have hb0 : ¬ (b : Int) < 0 := by omega
        have hb1 : (0 : Int) ≤ b := by omega
        simp (disch := first | omega | (simp only [List.length_append, List.length_cons, List.length_nil]; omega)) only [hfb, hgeq, hb0, hb1, ln, so5, go_sem, ↓reduceIte, reduceCtorEq, Nat.reduceAdd, Nat.reduceSub, Nat.reducePow, Nat.reduceMul, Nat.reduceEqDiff, Nat.reduceLT, Nat.reduceLeDiff, Int.reduceToNat, Int.reduceLT, Int.reduceLE, Int.reduceEq, Int.reduceNeg, Int.reduceAdd, Int.reduceSub, Int.reduceMul]
        refine gfc_of (has_fc _ d5 _ r5 (find19_words _ _ _) (b : Int) (by omega) (by omega)) ?_
        rw [hhas b hb.1, hb.2]
        rintro d h' ⟨rfl, e⟩
        rw [e]
        simp (disch := first | omega | (simp only [List.length_append, List.length_cons, List.length_nil]; omega)) only [go_sem, ↓reduceIte, reduceCtorEq, Nat.reduceAdd, Nat.reduceSub, Nat.reducePow, Nat.reduceMul, Nat.reduceEqDiff, Nat.reduceLT, Nat.reduceLeDiff, Int.reduceToNat, Int.reduceLT, Int.reduceLE, Int.reduceEq, Int.reduceNeg, Int.reduceAdd, Int.reduceSub, Int.reduceMul]
        refine loop_to l.length (fun k st => ∃ (j : Nat → D), st = ⟨(lD :: j 1 :: j 2 :: j 3 :: .ref h.length 0 :: j 5 :: j 6 :: .ref T 0 :: j 8 :: .ref Q 0 :: d5 :: .int .i64 (b : Int) :: .int .i64 (k : Int) :: j 13 :: j 14 :: j 15 :: j 16 :: j 17 :: j 18 :: j 19 :: j 20 :: j 21 :: j 22 :: j 23 :: j 24 :: j 25 :: j 26 :: j 27 :: j 28 :: j 29 :: j 30 :: j 31 :: j 32 :: j 33 :: j 34 :: j 35 :: j 36 :: j 37 :: j 38 :: j 39 :: j 40 :: j 41 :: j 42 :: j 43 :: j 44 :: j 45 :: j 46 :: j 47 :: j 48 :: j 49 :: j 50 :: j 51 :: j 52 :: j 53 :: j 54 :: j 55 :: j 56 :: j 57 :: j 58 :: j 59 :: j 60 :: j 61 :: j 62 :: j 63 :: j 64 :: j 65 :: j 66 :: j 67 :: j 68 :: j 69 :: j 70 :: j 71 :: j 72 :: j 73 :: j 74 :: j 75 :: j 76 :: j 77 :: j 78 :: j 79 :: j 80 :: j 81 :: j 82 :: j 83 :: j 84 :: j 85 :: j 86 :: j 87 :: j 88 :: j 89 :: j 90 :: j 91 :: j 92 :: j 93 :: j 94 :: j 95 :: j 96 :: j 97 :: j 98 :: j 99 :: j 100 :: j 101 :: j 102 :: j 103 :: j 104 :: j 105 :: j 106 :: j 107 :: j 108 :: j 109 :: j 110 :: j 111 :: j 112 :: j 113 :: j 114 :: j 115 :: j 116 :: j 117 :: j 118 :: j 119 :: j 120 :: j 121 :: j 122 :: j 123 :: j 124 :: j 125 :: j 126 :: j 127 :: j 128 :: j 129 :: j 130 :: j 131 :: j 132 :: j 133 :: j 134 :: j 135 :: j 136 :: j 137 :: j 138 :: j 139 :: j 140 :: j 141 :: j 142 :: j 143 :: j 144 :: j 145 :: j 146 :: j 147 :: j 148 :: []), h5⟩) (junk rfl) ?_
        rintro k st hk ⟨j, rfl⟩
        by_cases hkn : k < l.length
        · have hkn' : (k : Int) < l.length := by omega
          obtain ⟨p5, cs5, x1, x2, x3, x4⟩ := pf_elem (hs h5) ha hkn
          obtain ⟨q5, y1, y2⟩ := fa_of x2 17
          have c5 := cells_n (ha.at k) x3
          have wk : IntKind.i64.wrap ((k : Int) + 1) = ((k + 1 : Nat) : Int) := by rw [w_i64 (by omega) (by omega)]; omega
          have hki := hhas k hkn
          have hph : FC Try.prog 20 [.agg (pfAt l k).cells, .int .i64 P.v, .agg (ofBytes a)] h5 fun d h' => d = .bool (hasAt l P.v a k) ∧ h' = h5 := phas_fc _ (pfAt l k).v (pfAt l k).n P.v (pfAt l k).a a (ha.at k) hal
          simp (disch := first | omega | (simp only [List.length_append, List.length_cons, List.length_nil]; omega)) only [c5r0, c5r1, c5r2, c5r3, c5r4, c5r5, c5r6, c5r7, c5r8, c5r9, c5r10, c5r11, c5r12, c5r13, c5r14, c5r15, c5r16, c5r17, c5l18, c5r19, ln, so5, hkn', x1, x2, x3, x4, bP5, hc0, bA5, p7, l16, go_sem, ↓reduceIte, reduceCtorEq, Nat.reduceAdd, Nat.reduceSub, Nat.reducePow, Nat.reduceMul, Nat.reduceEqDiff, Nat.reduceLT, Nat.reduceLeDiff, Int.reduceToNat, Int.reduceLT, Int.reduceLE, Int.reduceEq, Int.reduceNeg, Int.reduceAdd, Int.reduceSub, Int.reduceMul]
          refine xfc_of (has_fc _ d5 _ r5 (find19_words _ _ _) (k : Int) (by omega) (by omega)) ?_
          rw [hki]
          rintro d h' ⟨rfl, e⟩
          refine ⟨⟨[], by rw [e, List.append_nil]⟩, ?_⟩
          rw [e]
          simp (disch := first | omega | (simp only [List.length_append, List.length_cons, List.length_nil]; omega)) only [go_sem, ↓reduceIte, reduceCtorEq, Nat.reduceAdd, Nat.reduceSub, Nat.reducePow, Nat.reduceMul, Nat.reduceEqDiff, Nat.reduceLT, Nat.reduceLeDiff, Int.reduceToNat, Int.reduceLT, Int.reduceLE, Int.reduceEq, Int.reduceNeg, Int.reduceAdd, Int.reduceSub, Int.reduceMul]
          refine xfc_of hph ?_
          rintro d h' ⟨rfl, e⟩
          refine ⟨⟨[], by rw [e, List.append_nil]⟩, ?_⟩
          rw [e]
          have hxx : ∀ x : Bool, (!(x == x)) = false := by decide
          simp (disch := first | omega | (simp only [List.length_append, List.length_cons, List.length_nil]; omega)) only [bne_self_eq_false, hxx, go_sem, ↓reduceIte, reduceCtorEq, Nat.reduceAdd, Nat.reduceSub, Nat.reducePow, Nat.reduceMul, Nat.reduceEqDiff, Nat.reduceLT, Nat.reduceLeDiff, Int.reduceToNat, Int.reduceLT, Int.reduceLE, Int.reduceEq, Int.reduceNeg, Int.reduceAdd, Int.reduceSub, Int.reduceMul]
          refine xfc_of (has_fc _ d5 _ r5 (find19_words _ _ _) (k : Int) (by omega) (by omega)) ?_
          rw [hki]
          rintro d h' ⟨rfl, e⟩
          refine ⟨⟨[], by rw [e, List.append_nil]⟩, ?_⟩
          rw [e]
          cases hh : hasAt l P.v a k with
          | false =>
            simp (disch := first | omega | (simp only [List.length_append, List.length_cons, List.length_nil]; omega)) only [wk, go_sem, ↓reduceIte, reduceCtorEq, Nat.reduceAdd, Nat.reduceSub, Nat.reducePow, Nat.reduceMul, Nat.reduceEqDiff, Nat.reduceLT, Nat.reduceLeDiff, Int.reduceToNat, Int.reduceLT, Int.reduceLE, Int.reduceEq, Int.reduceNeg, Int.reduceAdd, Int.reduceSub, Int.reduceMul]
            exact ⟨hkn, junk rfl⟩
          | true =>
            have hcmp := hbest k ⟨hkn, hh⟩
            obtain ⟨p6, cs6, z1, z2, z3, z4⟩ := pf_elem (hs h5) ha hb.1
            obtain ⟨q6, u1, u2⟩ := fa_of z2 17
            have c6 := cells_n (ha.at b) z3
            have g1 : ¬ (pfAt l b).n < (pfAt l k).n := by omega
            by_cases he : (pfAt l k).n = (pfAt l b).n
            · have g2 : ¬ (k : Int) < (b : Int) := by omega
              rw [he] at c5 g1
              have g3 : decide ((pfAt l b).n < (pfAt l b).n) = false := by simp
              simp (disch := first | omega | (simp only [List.length_append, List.length_cons, List.length_nil]; omega)) only [g3, ln, so5, x1, x2, y1, y2, c5, z1, z2, u1, u2, c6, g1, he, g2, wk, go_sem, ↓reduceIte, reduceCtorEq, Nat.reduceAdd, Nat.reduceSub, Nat.reducePow, Nat.reduceMul, Nat.reduceEqDiff, Nat.reduceLT, Nat.reduceLeDiff, Int.reduceToNat, Int.reduceLT, Int.reduceLE, Int.reduceEq, Int.reduceNeg, Int.reduceAdd, Int.reduceSub, Int.reduceMul]
              exact ⟨hkn, junk rfl⟩
            · simp (disch := first | omega | (simp only [List.length_append, List.length_cons, List.length_nil]; omega)) only [ln, so5, x1, x2, y1, y2, c5, z1, z2, u1, u2, c6, g1, he, wk, go_sem, ↓reduceIte, reduceCtorEq, Nat.reduceAdd, Nat.reduceSub, Nat.reducePow, Nat.reduceMul, Nat.reduceEqDiff, Nat.reduceLT, Nat.reduceLeDiff, Int.reduceToNat, Int.reduceLT, Int.reduceLE, Int.reduceEq, Int.reduceNeg, Int.reduceAdd, Int.reduceSub, Int.reduceMul]
              exact ⟨hkn, junk rfl⟩
        · have hkn' : ¬ (k : Int) < l.length := by omega
          simp (disch := first | omega | (simp only [List.length_append, List.length_cons, List.length_nil]; omega)) only [c5r0, c5r1, c5r2, c5r3, c5r4, c5r5, c5r6, c5r7, c5r8, c5r9, c5r10, c5r11, c5r12, c5r13, c5r14, c5r15, c5r16, c5r17, c5l18, c5r19, ln, so5, hkn', go_sem, ↓reduceIte, reduceCtorEq, Nat.reduceAdd, Nat.reduceSub, Nat.reducePow, Nat.reduceMul, Nat.reduceEqDiff, Nat.reduceLT, Nat.reduceLeDiff, Int.reduceToNat, Int.reduceLT, Int.reduceLE, Int.reduceEq, Int.reduceNeg, Int.reduceAdd, Int.reduceSub, Int.reduceMul]
          refine gfc_of (live19 _) ?_
          rintro d h' ⟨rfl, e⟩
          rw [e]
          simp (disch := first | omega | (simp only [List.length_append, List.length_cons, List.length_nil]; omega)) only [go_sem, ↓reduceIte, reduceCtorEq, Nat.reduceAdd, Nat.reduceSub, Nat.reducePow, Nat.reduceMul, Nat.reduceEqDiff, Nat.reduceLT, Nat.reduceLeDiff, Int.reduceToNat, Int.reduceLT, Int.reduceLE, Int.reduceEq, Int.reduceNeg, Int.reduceAdd, Int.reduceSub, Int.reduceMul]
          exact fin_ext (E0.trans (E1.trans (E2.trans (E3.trans (E4.trans E5))))) rfl ⟨rfl, rfl⟩

theorem thas_law (h : Heap) (x0 : (Sh.sl (Sh.pair (.int .i64) (.pair (.arr 16 (.int .u8)) (.pair (.int .i64) .unit)))).T) (ok0 : (Sh.sl (Sh.pair (.int .i64) (.pair (.arr 16 (.int .u8)) (.pair (.int .i64) .unit)))).ok x0) (x1 : (Sh.arr 16 (.int .u8)).T) (ok1 : (Sh.arr 16 (.int .u8)).ok x1) (x2 : (Sh.int .u8).T) (ok2 : (Sh.int .u8).ok x2)
    (hv : (Sh.sl (Sh.pair (.int .i64) (.pair (.arr 16 (.int .u8)) (.pair (.int .i64) .unit)))).vol x0 + (Sh.arr 16 (.int .u8)).vol x1 + (Sh.int .u8).vol x2 ≤ 1048576)
    (D0 : D) (en0 : (Sh.sl (Sh.pair (.int .i64) (.pair (.arr 16 (.int .u8)) (.pair (.int .i64) .unit)))).EncV x0 D0) (D1 : D) (en1 : (Sh.arr 16 (.int .u8)).EncV x1 D1) (D2 : D) (en2 : (Sh.int .u8).EncV x2 D2) : FC Try.prog 5 [D0, D1, D2] h fun d h' => d = .bool true ∧ h' = h := by
  obtain ⟨l, ha, hl, hd⟩ := pfs_open ok0 en0
  obtain ⟨a, hal, rfl⟩ := arr_u8 ok1 en1
  obtain ⟨n, rfl, hn⟩ := ok_u8 ok2
  simp only [Sh.EncV] at en2
  subst en2
  exact thas_fc h D0 l (pfs_sl ha hd) ha (by omega) a hal n hn
end Go.Proofs

