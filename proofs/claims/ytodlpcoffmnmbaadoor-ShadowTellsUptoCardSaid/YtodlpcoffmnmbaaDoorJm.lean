/-
  Own work. The document's Witness.
-/
import Derived.Test.YtodlpcoffmnmbaaDoorJl
namespace Go.Proofs
open Go Go.YtodlpcoffmnmbaaDoor
set_option linter.unusedVariables false
set_option linter.unusedSimpArgs false
set_option maxRecDepth 10000

/-! ### weighbridge/weighbridgeref23.Witness, params 2 -/
def c5r0 : List AStm := [.op (some 2) none (.box (.t 0)),
    .op (some 3) none (.box (.t 1)),
    .op (some 4) none (.alloc [(.int .i64 0), (.int .u8 0), (.int .u8 0), (.int .u8 0), (.int .u8 0), (.int .u8 0), (.int .u8 0), (.int .u8 0), (.int .u8 0), (.int .u8 0), (.int .u8 0), (.int .u8 0), (.int .u8 0), (.int .u8 0), (.int .u8 0), (.int .u8 0), (.int .u8 0), (.int .u8 0), (.int .u8 0), (.int .u8 0), (.int .u8 0), (.int .u8 0), (.int .u8 0), (.int .u8 0), (.int .u8 0), (.int .u8 0), (.int .u8 0), (.int .u8 0), (.int .u8 0), (.int .u8 0), (.int .u8 0), (.int .u8 0), (.int .u8 0), (.int .i64 0), (.int .i64 0), (.bool false), (.int .i64 0), (.int .i64 0)]),
    .op (some 5) none (.mv (.c (.bool false)))]
def c5r1 : List AStm := [.op (some 12) none (.load (some 43) (.t 2)),
    .op (some 13) none (.load (some 43) (.t 3)),
    .call (some 14) none (.c (.fn (.func 16) [] [])) [(.t 12), (.t 13)],
    .op (some 15) none (.un .not (.t 14))]
def c5r2 : List AStm := [.op (some 16) none (.build [(.int .i64 0), (.int .u8 0), (.int .u8 0), (.int .u8 0), (.int .u8 0), (.int .u8 0), (.int .u8 0), (.int .u8 0), (.int .u8 0), (.int .u8 0), (.int .u8 0), (.int .u8 0), (.int .u8 0), (.int .u8 0), (.int .u8 0), (.int .u8 0), (.int .u8 0), (.int .u8 0), (.int .u8 0), (.int .u8 0), (.int .u8 0), (.int .u8 0), (.int .u8 0), (.int .u8 0), (.int .u8 0), (.int .u8 0), (.int .u8 0), (.int .u8 0), (.int .u8 0), (.int .u8 0), (.int .u8 0), (.int .u8 0), (.int .u8 0), (.int .i64 0), (.int .i64 0), (.bool false), (.int .i64 0), (.int .i64 0)] []),
    .op none none (.store 38 (.t 4) (.t 16)),
    .op (some 5) none (.mv (.c (.bool false)))]
def c5r3 : List AStm := [.op (some 17) none (.faddr 0 (.t 2)),
    .op (some 18) none (.faddr 0 (.t 17)),
    .op (some 19) none (.load none (.t 18)),
    .op (some 20) none (.build [(.int .i64 0), (.int .u8 0), (.int .u8 0), (.int .u8 0), (.int .u8 0), (.int .u8 0), (.int .u8 0), (.int .u8 0), (.int .u8 0), (.int .u8 0), (.int .u8 0), (.int .u8 0), (.int .u8 0), (.int .u8 0), (.int .u8 0), (.int .u8 0), (.int .u8 0), (.int .u8 0), (.int .u8 0), (.int .u8 0), (.int .u8 0), (.int .u8 0), (.int .u8 0), (.int .u8 0), (.int .u8 0), (.int .u8 0), (.int .u8 0), (.int .u8 0), (.int .u8 0), (.int .u8 0), (.int .u8 0), (.int .u8 0), (.int .u8 0), (.int .i64 0), (.int .i64 0), (.bool false), (.int .i64 0), (.int .i64 0)] [(0, 1, (.t 19)), (35, 1, (.c (.bool true)))]),
    .op (some 6) none (.alloc [(.int .i64 0), (.int .u8 0), (.int .u8 0), (.int .u8 0), (.int .u8 0), (.int .u8 0), (.int .u8 0), (.int .u8 0), (.int .u8 0), (.int .u8 0), (.int .u8 0), (.int .u8 0), (.int .u8 0), (.int .u8 0), (.int .u8 0), (.int .u8 0), (.int .u8 0), (.int .u8 0), (.int .u8 0), (.int .u8 0), (.int .u8 0), (.int .u8 0), (.int .u8 0), (.int .u8 0), (.int .u8 0), (.int .u8 0), (.int .u8 0), (.int .u8 0), (.int .u8 0), (.int .u8 0), (.int .u8 0), (.int .u8 0), (.int .u8 0), (.int .i64 0), (.int .i64 0), (.bool false), (.int .i64 0), (.int .i64 0)]),
    .op none none (.store 38 (.t 6) (.t 20))]
def c5r4 : List AStm := [.op (some 7) none (.alloc (List.replicate 6 (.bool false)))]
def c5r5 : List AStm := [.op (some 22) none (.faddr 0 (.t 2)),
    .op (some 23) none (.load (some 18) (.t 22)),
    .op (some 24) none (.faddr 0 (.t 3)),
    .op (some 25) none (.load (some 18) (.t 24)),
    .call (some 26) none (.c (.fn (.func 17) [] [])) [(.t 23), (.t 25)],
    .op (some 21) none (.mv (.t 26)),
    .op (some 27) none (.ext (.t 21) 0),
    .op (some 28) none (.ext (.t 21) 1),
    .op (some 29) none (.faddr 1 (.t 6)),
    .op none none (.store 16 (.t 29) (.t 27)),
    .op (some 30) none (.ixa 6 1 (.t 7) (.c (.int .i64 0))),
    .op none none (.store 1 (.t 30) (.t 28))]
def c5r6 : List AStm := [.op (some 32) none (.faddr 18 (.t 2)),
    .op (some 33) none (.load (some 18) (.t 32)),
    .op (some 34) none (.faddr 18 (.t 3)),
    .op (some 35) none (.load (some 18) (.t 34)),
    .call (some 36) none (.c (.fn (.func 17) [] [])) [(.t 33), (.t 35)],
    .op (some 31) none (.mv (.t 36)),
    .op (some 37) none (.ext (.t 31) 0),
    .op (some 38) none (.ext (.t 31) 1),
    .op (some 39) none (.faddr 17 (.t 6)),
    .op none none (.store 16 (.t 39) (.t 37)),
    .op (some 40) none (.ixa 6 1 (.t 7) (.c (.int .i64 1))),
    .op none none (.store 1 (.t 40) (.t 38))]
def c5r7 : List AStm := [.op (some 42) none (.faddr 36 (.t 2)),
    .op (some 43) none (.load (some 2) (.t 42)),
    .op (some 44) none (.faddr 36 (.t 3)),
    .op (some 45) none (.load (some 2) (.t 44)),
    .call (some 46) none (.c (.fn (.func 18) [] [])) [(.t 43), (.t 45)],
    .op (some 41) none (.mv (.t 46)),
    .op (some 47) none (.ext (.t 41) 0),
    .op (some 48) none (.ext (.t 41) 1),
    .op (some 8) none (.alloc [(.int .i64 0), (.int .i64 0)]),
    .op none none (.store 2 (.t 8) (.t 47)),
    .op (some 9) none (.mv (.t 48))]
def c5r8 : List AStm := [.op (some 50) none (.faddr 38 (.t 2)),
    .op (some 51) none (.load (some 2) (.t 50)),
    .op (some 52) none (.faddr 38 (.t 3)),
    .op (some 53) none (.load (some 2) (.t 52)),
    .call (some 54) none (.c (.fn (.func 18) [] [])) [(.t 51), (.t 53)],
    .op (some 49) none (.mv (.t 54)),
    .op (some 55) none (.ext (.t 49) 0),
    .op (some 56) none (.ext (.t 49) 1),
    .op (some 10) none (.alloc [(.int .i64 0), (.int .i64 0)]),
    .op none none (.store 2 (.t 10) (.t 55)),
    .op (some 11) none (.mv (.t 56))]
def c5r9 : List AStm := [.op (some 57) none (.faddr 0 (.t 8)),
    .op (some 58) none (.load none (.t 57)),
    .op (some 59) none (.mv (.t 9)),
    .op (some 60) none (.faddr 0 (.t 10)),
    .op (some 61) none (.load none (.t 60)),
    .op (some 62) none (.mv (.t 11)),
    .op (some 63) none (.faddr 36 (.t 6)),
    .op none none (.store 1 (.t 63) (.t 58)),
    .chk 60 none (.faddr 0 (.t 10)),
    .chk 61 none (.load none (.t 60)),
    .op (some 64) none (.ixa 6 1 (.t 7) (.c (.int .i64 2))),
    .op none none (.store 1 (.t 64) (.t 59)),
    .chk 60 none (.faddr 0 (.t 10)),
    .chk 61 none (.load none (.t 60)),
    .op (some 65) none (.faddr 37 (.t 6)),
    .op none none (.store 1 (.t 65) (.t 61)),
    .op (some 66) none (.ixa 6 1 (.t 7) (.c (.int .i64 3))),
    .op none none (.store 1 (.t 66) (.t 62))]
def c5r10 : List AStm := []
def c5r11 : List AStm := [.op (some 68) none (.faddr 40 (.t 2)),
    .op (some 69) none (.load none (.t 68)),
    .op (some 70) none (.faddr 40 (.t 3)),
    .op (some 71) none (.load none (.t 70)),
    .call (some 72) none (.c (.fn (.func 19) [] [])) [(.t 69), (.t 71), (.c (.int .i64 6))],
    .op (some 67) none (.mv (.t 72)),
    .op (some 73) none (.ext (.t 67) 0),
    .op (some 74) none (.ext (.t 67) 1),
    .op (some 75) none (.faddr 33 (.t 6)),
    .op none none (.store 1 (.t 75) (.t 73)),
    .op (some 76) none (.ixa 6 1 (.t 7) (.c (.int .i64 4))),
    .op none none (.store 1 (.t 76) (.t 74))]
def c5r12 : List AStm := [.op (some 78) none (.faddr 41 (.t 2)),
    .op (some 79) none (.load none (.t 78)),
    .op (some 80) none (.faddr 41 (.t 3)),
    .op (some 81) none (.load none (.t 80)),
    .call (some 82) none (.c (.fn (.func 19) [] [])) [(.t 79), (.t 81), (.c (.int .i64 0))],
    .op (some 77) none (.mv (.t 82)),
    .op (some 83) none (.ext (.t 77) 0),
    .op (some 84) none (.ext (.t 77) 1),
    .op (some 85) none (.faddr 34 (.t 6)),
    .op none none (.store 1 (.t 85) (.t 83)),
    .op (some 86) none (.ixa 6 1 (.t 7) (.c (.int .i64 5))),
    .op none none (.store 1 (.t 86) (.t 84))]
def c5r13 : List AStm := [.op (some 87) none (.load (some 6) (.t 7)),
    .op (some 88) none (.build (List.replicate 6 (.bool false)) [(0, 1, (.c (.bool true))), (1, 1, (.c (.bool true))), (2, 1, (.c (.bool true))), (3, 1, (.c (.bool true))), (4, 1, (.c (.bool true))), (5, 1, (.c (.bool true)))]),
    .op (some 89) none (.eqa true (List.replicate 6 .kb) (.t 87) (.t 88))]
def c5r14 : List AStm := [.op (some 90) none (.build [(.int .i64 0), (.int .u8 0), (.int .u8 0), (.int .u8 0), (.int .u8 0), (.int .u8 0), (.int .u8 0), (.int .u8 0), (.int .u8 0), (.int .u8 0), (.int .u8 0), (.int .u8 0), (.int .u8 0), (.int .u8 0), (.int .u8 0), (.int .u8 0), (.int .u8 0), (.int .u8 0), (.int .u8 0), (.int .u8 0), (.int .u8 0), (.int .u8 0), (.int .u8 0), (.int .u8 0), (.int .u8 0), (.int .u8 0), (.int .u8 0), (.int .u8 0), (.int .u8 0), (.int .u8 0), (.int .u8 0), (.int .u8 0), (.int .u8 0), (.int .i64 0), (.int .i64 0), (.bool false), (.int .i64 0), (.int .i64 0)] []),
    .op none none (.store 38 (.t 4) (.t 90)),
    .op (some 5) none (.mv (.c (.bool false)))]
def c5r15 : List AStm := [.op (some 91) none (.load (some 38) (.t 6)),
    .op none none (.store 38 (.t 4) (.t 91)),
    .op (some 5) none (.mv (.c (.bool true)))]
def c5 : CF := ⟨.seq (.reg c5r0) (.seq (.seq (.reg c5r1) (.cond (.t 15) (.seq (.reg c5r2) (.ret)) (.skip))) (.seq (.reg c5r3) (.seq (.reg c5r4) (.seq (.reg c5r5) (.seq (.reg c5r6) (.seq (.reg c5r7) (.seq (.reg c5r8) (.seq (.dreg c5r9 c5r10) (.seq (.reg c5r11) (.seq (.reg c5r12) (.seq (.seq (.reg c5r13) (.cond (.t 89) (.seq (.reg c5r14) (.ret)) (.skip))) (.seq (.reg c5r15) (.ret))))))))))))), [.cell 4 (some 38), .tmp 5], 92⟩
theorem cf5 : cfun Tryd.prog 5 = some c5 := by kernel_rfl



/-! ### A key's cells, written -/
def kS (k : Ky) (a : List UInt8) : Ky := { k with s := a }
def kD (k : Ky) (a : List UInt8) : Ky := { k with d := a }
def kP (k : Ky) (n : Int) : Ky := { k with proto := n }
def kC (k : Ky) (n : Int) : Ky := { k with dscp := n }
def kSp (k : Ky) (n : Int) : Ky := { k with sp := n }
def kDp (k : Ky) (n : Int) : Ky := { k with dp := n }
theorem ky_splice1 {k : Ky} (kok : k.Ok) {a : List UInt8} (ha : a.length = 16) : splice (ky k) 1 (ofBytes a) = ky (kS k a) := by
  have la : (ofBytes a).length = 16 := by rw [ofBytes_length, ha]
  rw [splice_eq _ _ _ (by rw [ky_len kok, la]; omega), la, show 1 + 16 = 17 from rfl, ky_d17 kok]
  rfl
theorem ky_splice17 {k : Ky} (kok : k.Ok) {a : List UInt8} (ha : a.length = 16) : splice (ky k) 17 (ofBytes a) = ky (kD k a) := by
  have la : (ofBytes a).length = 16 := by rw [ofBytes_length, ha]
  have ls : (ofBytes k.s).length = 16 := by rw [ofBytes_length, kok.s]
  rw [splice_eq _ _ _ (by rw [ky_len kok, la]; omega), la, show 17 + 16 = 33 from rfl, ky_d33 kok]
  have e : (ky k).take 17 = .int .i64 k.v :: ofBytes k.s := by
    show _ :: (ofBytes k.s ++ _).take 16 = _
    rw [List.take_append_of_le_length (by omega), List.take_of_length_le (by omega)]
  rw [e]
  show (_ :: ofBytes k.s ++ ofBytes a) ++ kyT k = _ :: (ofBytes k.s ++ (ofBytes a ++ kyT k))
  simp only [List.cons_append, List.append_assoc]; rfl
theorem ky_set {k : Ky} (kok : k.Ok) (j : Nat) (x : D) : (ky k).set (33 + j) x = (.int .i64 k.v :: (ofBytes k.s ++ ofBytes k.d)) ++ (kyT k).set j x := by
  have hl : (D.int .i64 k.v :: (ofBytes k.s ++ ofBytes k.d)).length = 33 := by rw [List.length_cons, List.length_append, ofBytes_length, ofBytes_length, kok.s, kok.d]
  have e : ky k = (.int .i64 k.v :: (ofBytes k.s ++ ofBytes k.d)) ++ kyT k := by
    show _ :: (ofBytes k.s ++ (ofBytes k.d ++ kyT k)) = _
    simp only [List.cons_append, List.append_assoc]
  rw [e, List.set_append_right _ _ (by omega), hl, Nat.add_sub_cancel_left]
theorem ky_app (v : Int) (s d : List UInt8) (t : List D) : (D.int .i64 v :: (ofBytes s ++ ofBytes d)) ++ t = .int .i64 v :: (ofBytes s ++ (ofBytes d ++ t)) := by simp only [List.cons_append, List.append_assoc]
theorem ky_set33 {k : Ky} (kok : k.Ok) (n : Int) : (ky k).set 33 (.int .i64 n) = ky (kP k n) := by
  rw [show 33 = 33 + 0 from rfl, ky_set kok, ky_app]; rfl
theorem ky_set34 {k : Ky} (kok : k.Ok) (n : Int) : (ky k).set 34 (.int .i64 n) = ky (kC k n) := by
  rw [show 34 = 33 + 1 from rfl, ky_set kok, ky_app]; rfl
theorem ky_set36 {k : Ky} (kok : k.Ok) (n : Int) : (ky k).set 36 (.int .i64 n) = ky (kSp k n) := by
  rw [show 36 = 33 + 3 from rfl, ky_set kok, ky_app]; rfl
theorem ky_set37 {k : Ky} (kok : k.Ok) (n : Int) : (ky k).set 37 (.int .i64 n) = ky (kDp k n) := by
  rw [show 37 = 33 + 4 from rfl, ky_set kok, ky_app]; rfl
def kyV (v : Int) : Ky := { kyNo with v := v, ports := true }
theorem ky_fill2 (v : Int) : fillD (ky kyNo) [(0, 1, .int .i64 v), (35, 1, .bool true)] = some (ky (kyV v)) := rfl
theorem num_same {a b o : Int} (ha : -1 ≤ a) (hb : -1 ≤ b) (h : numP a b = false) : (if a = -1 ∧ b = -1 then o else max a b) = numF a b o := by
  simp only [numP, decide_eq_false_iff_not] at h
  unfold numF
  split
  · rfl
  · split <;> omega
theorem rwitness_fc (h : Heap) (a b : Ru) (oa : a.Ok) (ob : b.Ok) : FC Tryd.prog 5 [.agg (ru a), .agg (ru b)] h fun d h' => d = .tup [.agg (ky (witK a b)), .bool (witB a b)] ∧ h' = h := by
  have la := ru_len oa
  have lb := ru_len ob
  have zz : ky kyNo = [.int .i64 0, .int .u8 0, .int .u8 0, .int .u8 0, .int .u8 0, .int .u8 0, .int .u8 0, .int .u8 0, .int .u8 0, .int .u8 0, .int .u8 0, .int .u8 0, .int .u8 0, .int .u8 0, .int .u8 0, .int .u8 0, .int .u8 0, .int .u8 0, .int .u8 0, .int .u8 0, .int .u8 0, .int .u8 0, .int .u8 0, .int .u8 0, .int .u8 0, .int .u8 0, .int .u8 0, .int .u8 0, .int .u8 0, .int .u8 0, .int .u8 0, .int .u8 0, .int .u8 0, .int .i64 0, .int .i64 0, .bool false, .int .i64 0, .int .i64 0] := rfl
  have nl := ky_len kyNo_ok
  have n1 := ky_one kyNo_ok
  have nt := ky_take kyNo_ok
  refine FC.goes cf5 ?_; simp only [c5]; simp only [List.length_cons, List.length_nil, Nat.reduceAdd, Nat.reduceSub, List.replicate_succ, List.replicate_zero, List.cons_append, List.nil_append]
  simp only [c5r0, c5r2, c5r3, c5r14, ← zz]
  clear zz
  simp (disch := first | omega | (simp only [List.length_append, List.length_cons, List.length_nil]; omega)) only [c5r0, c5r1, c5r2, c5r3, c5r4, c5r5, c5r6, c5r7, c5r8, c5r9, c5r10, c5r11, c5r12, c5r13, c5r14, c5r15, la, lb, ru_one, ru_take, oa, ob, go_sem, ↓reduceIte, reduceCtorEq, Nat.reduceAdd, Nat.reduceSub, Nat.reducePow, Nat.reduceMul, Nat.reduceEqDiff, Nat.reduceLT, Nat.reduceLeDiff, Int.reduceToNat, Int.reduceLT, Int.reduceLE, Int.reduceEq, Int.reduceNeg, Int.reduceAdd, Int.reduceSub, Int.reduceMul]
  refine gfc_same (rboth_fc _ a b oa ob) ?_
  cases h1 : bothOk a b with
  | false =>
    have e : witB a b = false := by rw [witB, h1]; rfl
    have e2 : witK a b = kyNo := by rw [witK, e]; rfl
    rw [e, e2]
    simp (disch := first | omega | (simp only [List.length_append, List.length_cons, List.length_nil]; omega)) only [fill0, nl, n1, nt, go_sem, ↓reduceIte, reduceCtorEq, Nat.reduceAdd, Nat.reduceSub, Nat.reducePow, Nat.reduceMul, Nat.reduceEqDiff, Nat.reduceLT, Nat.reduceLeDiff, Int.reduceToNat, Int.reduceLT, Int.reduceLE, Int.reduceEq, Int.reduceNeg, Int.reduceAdd, Int.reduceSub, Int.reduceMul]
    exact FinOk.drop (.inl rfl) (by simp [underL, underD, ky_under kyNo_ok]) ⟨rfl, rfl⟩
  | true =>
    obtain ⟨ca, cb⟩ : ruChk a = 0 ∧ ruChk b = 0 := by simpa only [bothOk, Bool.and_eq_true, decide_eq_true_eq] using h1
    have fa := ru_facts ca
    have fb := ru_facts cb
    have ow : (kyV a.sv).Ok := ⟨zeros_len 16, zeros_len 16⟩
    have wl := ky_len ow
    have w1 := ky_one ow
    have wt := ky_take ow
    simp (disch := first | omega | (simp only [List.length_append, List.length_cons, List.length_nil]; omega)) only [ru_0, la, lb, ru_s, ru_d, ru_l18, oa, ob, ky_fill2, nl, n1, nt, wl, w1, wt, go_sem, ↓reduceIte, reduceCtorEq, Nat.reduceAdd, Nat.reduceSub, Nat.reducePow, Nat.reduceMul, Nat.reduceEqDiff, Nat.reduceLT, Nat.reduceLeDiff, Int.reduceToNat, Int.reduceLT, Int.reduceLE, Int.reduceEq, Int.reduceNeg, Int.reduceAdd, Int.reduceSub, Int.reduceMul]
    refine gfc_same (rlonger_fc _ a.sv a.sn b.sv b.sn a.sa b.sa oa.s ob.s) ?_
    generalize hS : (if withinF a.sv a.sa a.sn b.sv b.sa b.sn = true then a.sa else b.sa) = S
    generalize hB0 : (withinF a.sv a.sa a.sn b.sv b.sa b.sn || withinF b.sv b.sa b.sn a.sv a.sa a.sn) = B0
    have lS : S.length = 16 := by rw [← hS]; split; exact oa.s; exact ob.s
    have lS' : (ofBytes S).length = 16 := by rw [ofBytes_length, lS]
    have o1 : (kS (kyV a.sv) S).Ok := ⟨lS, ow.d⟩
    simp (disch := first | omega | (simp only [List.length_append, List.length_cons, List.length_nil]; omega)) only [ky_splice1, ow, lS, lS', la, lb, ru_s, ru_d, ru_l18, oa, ob, List.replicate_succ, List.replicate_zero, go_sem, ↓reduceIte, reduceCtorEq, Nat.reduceAdd, Nat.reduceSub, Nat.reducePow, Nat.reduceMul, Nat.reduceEqDiff, Nat.reduceLT, Nat.reduceLeDiff, Int.reduceToNat, Int.reduceLT, Int.reduceLE, Int.reduceEq, Int.reduceNeg, Int.reduceAdd, Int.reduceSub, Int.reduceMul]
    refine gfc_same (rlonger_fc _ a.dv a.dn b.dv b.dn a.da b.da oa.d ob.d) ?_
    generalize hD : (if withinF a.dv a.da a.dn b.dv b.da b.dn = true then a.da else b.da) = T
    generalize hB1 : (withinF a.dv a.da a.dn b.dv b.da b.dn || withinF b.dv b.da b.dn a.dv a.da a.dn) = B1
    have lT : T.length = 16 := by rw [← hD]; split; exact oa.d; exact ob.d
    have lT' : (ofBytes T).length = 16 := by rw [ofBytes_length, lT]
    have o2 : (kD (kS (kyV a.sv) S) T).Ok := ⟨lS, lT⟩
    have l1 := ky_len o1
    simp (disch := first | omega | (simp only [List.length_append, List.length_cons, List.length_nil]; omega)) only [ky_splice17, o1, l1, lT, lT', ru_d36, ru_d38, ruT, oa, ob, go_sem, ↓reduceIte, reduceCtorEq, Nat.reduceAdd, Nat.reduceSub, Nat.reducePow, Nat.reduceMul, Nat.reduceEqDiff, Nat.reduceLT, Nat.reduceLeDiff, Int.reduceToNat, Int.reduceLT, Int.reduceLE, Int.reduceEq, Int.reduceNeg, Int.reduceAdd, Int.reduceSub, Int.reduceMul]
    refine gfc_same (rsmeet_fc _ _ _ _ _) ?_
    simp (disch := first | omega | (simp only [List.length_append, List.length_cons, List.length_nil]; omega)) only [splice0, ru_d36, ru_d38, ruT, oa, ob, go_sem, ↓reduceIte, reduceCtorEq, Nat.reduceAdd, Nat.reduceSub, Nat.reducePow, Nat.reduceMul, Nat.reduceEqDiff, Nat.reduceLT, Nat.reduceLeDiff, Int.reduceToNat, Int.reduceLT, Int.reduceLE, Int.reduceEq, Int.reduceNeg, Int.reduceAdd, Int.reduceSub, Int.reduceMul]
    refine gfc_same (rsmeet_fc _ _ _ _ _) ?_
    generalize hB2 : meetB a.slo a.shi b.slo b.shi = B2
    generalize hB3 : meetB a.dlo a.dhi b.dlo b.dhi = B3
    generalize hL0 : meetLo a.slo a.shi b.slo b.shi = L0
    generalize hL1 : meetLo a.dlo a.dhi b.dlo b.dhi = L1
    have o3 : (kSp (kD (kS (kyV a.sv) S) T) L0).Ok := ⟨lS, lT⟩
    have o4 : (kDp (kSp (kD (kS (kyV a.sv) S) T) L0) L1).Ok := ⟨lS, lT⟩
    have l2 := ky_len o2
    have l3 := ky_len o3
    have l4 := ky_len o4
    simp (disch := first | omega | (simp only [List.length_append, List.length_cons, List.length_nil]; omega)) only [splice0, ky_set36, ky_set37, o2, o3, l2, l3, ru_d40, ru_d41, ruT, oa, ob, go_sem, ↓reduceIte, reduceCtorEq, Nat.reduceAdd, Nat.reduceSub, Nat.reducePow, Nat.reduceMul, Nat.reduceEqDiff, Nat.reduceLT, Nat.reduceLeDiff, Int.reduceToNat, Int.reduceLT, Int.reduceLE, Int.reduceEq, Int.reduceNeg, Int.reduceAdd, Int.reduceSub, Int.reduceMul]
    refine gfc_same (either_fc _ _ _ _) ?_
    generalize hN0 : (if a.proto = -1 ∧ b.proto = -1 then (6 : Int) else max a.proto b.proto) = N0
    generalize hB4 : (!numP a.proto b.proto) = B4
    have o5 : (kP (kDp (kSp (kD (kS (kyV a.sv) S) T) L0) L1) N0).Ok := ⟨lS, lT⟩
    have l5 := ky_len o5
    simp (disch := first | omega | (simp only [List.length_append, List.length_cons, List.length_nil]; omega)) only [ky_set33, o4, l4, ru_d40, ru_d41, ruT, oa, ob, go_sem, ↓reduceIte, reduceCtorEq, Nat.reduceAdd, Nat.reduceSub, Nat.reducePow, Nat.reduceMul, Nat.reduceEqDiff, Nat.reduceLT, Nat.reduceLeDiff, Int.reduceToNat, Int.reduceLT, Int.reduceLE, Int.reduceEq, Int.reduceNeg, Int.reduceAdd, Int.reduceSub, Int.reduceMul]
    refine gfc_same (either_fc _ _ _ _) ?_
    generalize hN1 : (if a.dscp = -1 ∧ b.dscp = -1 then (0 : Int) else max a.dscp b.dscp) = N1
    generalize hB5 : (!numP a.dscp b.dscp) = B5
    have o6 : (kC (kP (kDp (kSp (kD (kS (kyV a.sv) S) T) L0) L1) N0) N1).Ok := ⟨lS, lT⟩
    have l6 := ky_len o6
    have i6 := ky_one o6
    have t6 := ky_take o6
    simp (disch := first | omega | (simp only [List.length_append, List.length_cons, List.length_nil]; omega)) only [ky_set34, o5, l5, l6, i6, t6, go_sem, ↓reduceIte, reduceCtorEq, Nat.reduceAdd, Nat.reduceSub, Nat.reducePow, Nat.reduceMul, Nat.reduceEqDiff, Nat.reduceLT, Nat.reduceLeDiff, Int.reduceToNat, Int.reduceLT, Int.reduceLE, Int.reduceEq, Int.reduceNeg, Int.reduceAdd, Int.reduceSub, Int.reduceMul]
    simp (disch := first | omega | (simp only [List.length_append, List.length_cons, List.length_nil]; omega)) only [splice0, go_sem, fill_c, ↓reduceIte, reduceCtorEq, Nat.reduceAdd, Nat.reduceSub, Nat.reducePow, Nat.reduceMul, Nat.reduceEqDiff, Nat.reduceLT, Nat.reduceLeDiff, Int.reduceToNat, Int.reduceLT, Int.reduceLE, Int.reduceEq, Int.reduceNeg, Int.reduceAdd, Int.reduceSub, Int.reduceMul]
    have bt : ∀ b : Bool, (b == true) = b := by intro b; cases b <;> rfl
    have hw : witB a b = (B0 && (B1 && (B2 && (B3 && (B4 && B5))))) := by
      rw [witB, h1, witP, witS, witD, hB0, hB1, hB2, hB3, ← hB4, ← hB5]
      cases B0 <;> cases B1 <;> cases B2 <;> cases B3 <;> cases numP a.proto b.proto <;> cases numP a.dscp b.dscp <;> rfl
    simp only [bt]
    rw [← hw]
    cases hwb : witB a b with
    | false =>
      have e2 : witK a b = kyNo := by rw [witK, hwb]; rfl
      rw [e2]
      simp (disch := first | omega | (simp only [List.length_append, List.length_cons, List.length_nil]; omega)) only [fill0, nl, n1, nt, go_sem, ↓reduceIte, reduceCtorEq, Nat.reduceAdd, Nat.reduceSub, Nat.reducePow, Nat.reduceMul, Nat.reduceEqDiff, Nat.reduceLT, Nat.reduceLeDiff, Int.reduceToNat, Int.reduceLT, Int.reduceLE, Int.reduceEq, Int.reduceNeg, Int.reduceAdd, Int.reduceSub, Int.reduceMul]
      exact FinOk.drop (.inl rfl) (by simp [underL, underD, ky_under kyNo_ok]) ⟨rfl, rfl⟩
    | true =>
      rw [hwb] at hw
      have hall : B0 = true ∧ B1 = true ∧ B2 = true ∧ B3 = true ∧ B4 = true ∧ B5 = true := by
        revert hw; cases B0 <;> cases B1 <;> cases B2 <;> cases B3 <;> cases B4 <;> cases B5 <;> simp
      obtain ⟨c0, c1, c2, c3, c4, c5⟩ := hall
      have e3 : kC (kP (kDp (kSp (kD (kS (kyV a.sv) S) T) L0) L1) N0) N1 = witK' a b := by
        show (⟨a.sv, S, T, N0, N1, true, L0, L1⟩ : Ky) = _
        rw [witK', hL0, hL1, ← hN0, ← hN1, ← hS, ← hD, longer_same (hB0.trans c0), longer_same (hB1.trans c1), num_same fa.pr.1 fb.pr.1 (by simpa using hB4.trans c4), num_same fa.ds.1 fb.ds.1 (by simpa using hB5.trans c5)]
      have e2 : witK a b = witK' a b := by rw [witK, hwb]; rfl
      rw [e2, ← e3]
      simp (disch := first | omega | (simp only [List.length_append, List.length_cons, List.length_nil]; omega)) only [fill0, nl, n1, nt, l6, i6, t6, go_sem, ↓reduceIte, reduceCtorEq, Nat.reduceAdd, Nat.reduceSub, Nat.reducePow, Nat.reduceMul, Nat.reduceEqDiff, Nat.reduceLT, Nat.reduceLeDiff, Int.reduceToNat, Int.reduceLT, Int.reduceLE, Int.reduceEq, Int.reduceNeg, Int.reduceAdd, Int.reduceSub, Int.reduceMul]
      exact FinOk.drop (.inl rfl) (by simp [underL, underD, ky_under o6]) ⟨rfl, rfl⟩
end Go.Proofs
