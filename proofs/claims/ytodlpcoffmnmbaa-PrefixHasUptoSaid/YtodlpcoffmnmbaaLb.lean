/-
  Own work. The walk of PrefixHas.
-/
import Derived.Test.YtodlpcoffmnmbaaLa
import Derived.Test.YtodlpcoffmnmbaaPg
namespace Go.Proofs
open Go Go.Ytodlpcoffmnmbaa
set_option linter.unusedVariables false
set_option linter.unusedSimpArgs false
set_option maxRecDepth 10000

/-! ### weighbridge/weighbridgelaw07.PrefixHas, params 3 -/
def c6r0 : List AStm := [.op (some 3) none (.box (.t 0)),
    .op (some 5) none (.box (.t 2)),
    .op (some 6) none (.mv (.c (.bool false)))]
def c6r1 : List AStm := [.op (some 9) none (.ixa 2 18 (.t 3) (.c (.int .i64 0))),
    .op (some 10) none (.load (some 18) (.t 9)),
    .op (some 11) none (.ixa 2 18 (.t 3) (.c (.int .i64 1))),
    .op (some 12) none (.load (some 18) (.t 11)),
    .call (some 13) none (.c (.fn (.func 26) [] [])) [(.t 10), (.t 12)],
    .op (some 7) none (.mv (.t 13))]
def c6r2 : List AStm := [.op (some 14) none (.ixa 2 18 (.t 3) (.c (.int .i64 1))),
    .op (some 15) none (.load (some 18) (.t 14)),
    .op (some 16) none (.ixa 2 18 (.t 3) (.c (.int .i64 0))),
    .op (some 17) none (.load (some 18) (.t 16)),
    .call (some 18) none (.c (.fn (.func 26) [] [])) [(.t 15), (.t 17)],
    .op (some 8) none (.mv (.t 18))]
def c6r3 : List AStm := []
def c6r4 : List AStm := [.callG (some 19) none (.c (.fn (.func 21) [] [])) [],
    .op (some 20) none (.mv (.t 19)),
    .op (some 21) (some (20, true)) (.ixa 2 18 (.t 3) (.c (.int .i64 0))),
    .op (some 22) (some (20, true)) (.load (some 18) (.t 21)),
    .op (some 23) (some (20, true)) (.mv (.t 1)),
    .op (some 24) (some (20, true)) (.load (some 16) (.t 5)),
    .op (some 26) (some (20, true)) (.ixa 2 18 (.t 3) (.c (.int .i64 0))),
    .op (some 27) (some (20, true)) (.load (some 18) (.t 26)),
    .op (some 28) (some (20, true)) (.mv (.t 1)),
    .op (some 29) (some (20, true)) (.load (some 16) (.t 5)),
    .callG (some 25) (some (20, true)) (.c (.fn (.func 27) [] [])) [(.t 22), (.t 23), (.t 24)],
    .callG (some 30) (some (20, true)) (.c (.fn (.func 28) [] [])) [(.t 27), (.t 28), (.t 29)],
    .op (some 31) (some (20, true)) (.eqb false (.t 25) (.t 30)),
    .op (some 32) none (.pick (.t 20) (.t 31) (.c (.bool false))),
    .op (some 33) none (.mv (.t 32)),
    .op (some 34) (some (33, true)) (.ixa 2 18 (.t 3) (.c (.int .i64 0))),
    .op (some 35) (some (33, true)) (.load (some 18) (.t 34)),
    .op (some 36) (some (33, true)) (.ixa 2 18 (.t 3) (.c (.int .i64 1))),
    .op (some 37) (some (33, true)) (.load (some 18) (.t 36)),
    .op (some 39) (some (33, true)) (.mv (.t 7)),
    .callG (some 38) (some (33, true)) (.c (.fn (.func 29) [] [])) [(.t 35), (.t 37)],
    .op (some 40) (some (33, true)) (.eqb false (.t 38) (.t 39)),
    .op (some 41) none (.pick (.t 33) (.t 40) (.c (.bool false))),
    .op (some 42) none (.mv (.t 41)),
    .op (some 43) (some (42, true)) (.ixa 2 18 (.t 3) (.c (.int .i64 0))),
    .op (some 44) (some (42, true)) (.load (some 18) (.t 43)),
    .op (some 45) (some (42, true)) (.ixa 2 18 (.t 3) (.c (.int .i64 1))),
    .op (some 46) (some (42, true)) (.load (some 18) (.t 45)),
    .op (some 48) (some (42, true)) (.mv (.t 7)),
    .callG (some 47) (some (42, true)) (.c (.fn (.func 30) [] [])) [(.t 44), (.t 46)],
    .op (some 49) (some (42, true)) (.mv (.t 48)),
    .op (some 50) (some (49, false)) (.mv (.t 8)),
    .op (some 51) (some (42, true)) (.pick (.t 49) (.c (.bool true)) (.t 50)),
    .op (some 52) (some (42, true)) (.eqb false (.t 47) (.t 51)),
    .op (some 53) none (.pick (.t 42) (.t 52) (.c (.bool false))),
    .op (some 6) none (.mv (.t 53))]
def c6 : CF := ⟨.seq (.reg c6r0) (.seq (.reg c6r1) (.seq (.reg c6r2) (.seq (.dreg c6r3 c6r4) (.ret)))), [.tmp 6], 54⟩
theorem cf6 : cfun Try.prog 6 = some c6 := by kernel_rfl



/-- Nothing but what was there. -/
theorem xfc_same {P : Program} {i : FuncId} {args : List D} {h : Heap} {d : D} {rest : List AStm} {t : List D} {dst : Option Nat} {S : List Fr} {Q : Exit → St → Prop} (hc : FC P i args h fun d' h' => d' = d ∧ h' = h)
    (hk : gs P rest S Q ⟨setD t dst d, h⟩) : xfc P i args h rest t dst S Q := by
  refine xfc_of hc ?_
  rintro d' h' ⟨rfl, rfl⟩
  exact ⟨⟨[], (List.append_nil _).symm⟩, hk⟩
theorem gfc_same {P : Program} {i : FuncId} {args : List D} {h : Heap} {d : D} {rest : List AStm} {t : List D} {dst : Option Nat} {S : List Fr} {Q : Exit → St → Prop} (hc : FC P i args h fun d' h' => d' = d ∧ h' = h)
    (hk : gs P rest S Q ⟨setD t dst d, h⟩) : gfc P i args h rest t dst S Q := by
  refine gfc_of hc ?_
  rintro d' h' ⟨rfl, rfl⟩
  exact hk
theorem bool_same (b : Bool) : (b == b) = true := by simp
theorem has_law (h : Heap) (v n w m x : Int) (a b c : List UInt8) (ha : a.length = 16) (hb : b.length = 16) (hc : c.length = 16) :
    FC Try.prog 6 [.agg (pc v a n ++ pc w b m), .int .i64 x, .agg (ofBytes c)] h fun d h' => d = .bool true ∧ h' = h := by
  have l1 := pc_len (v := v) (n := n) ha
  have l2 := pc_len (v := w) (n := m) hb
  have t1 : List.take 18 (pc v a n ++ pc w b m) = pc v a n := by rw [List.take_append_of_le_length (by omega), pc_take ha]
  have t2 : List.take 18 (List.drop 18 (pc v a n ++ pc w b m)) = pc w b m := by rw [List.drop_append_of_le_length (by omega), List.drop_of_length_le (by omega), List.nil_append, pc_take hb]
  have t3 : (pc v a n ++ pc w b m).length = 36 := by rw [List.length_append]; omega
  have t4 : (List.drop 18 (pc v a n ++ pc w b m)).length = 18 := by rw [List.length_drop]; omega
  have t5 : (pc v a n ++ pc w b m).all D.one = true := by rw [List.all_append, pc_one, pc_one]; rfl
  have c1 : (ofBytes c).length = 16 := by rw [ofBytes_length, hc]
  have c2 : List.take 16 (ofBytes c) = ofBytes c := List.take_of_length_le (by omega)
  have eh := phas_fc
  have eh2 := rhas_fc
  simp only [prefD_pc] at eh eh2
  refine FC.goes cf6 ?_; simp only [c6]; simp only [List.length_cons, List.length_nil, Nat.reduceAdd, Nat.reduceSub, List.replicate_succ, List.replicate_zero, List.cons_append, List.nil_append]
  simp (disch := first | omega | (simp only [List.length_append, List.length_cons, List.length_nil]; omega)) only [c6r0, c6r1, c6r2, c6r3, c6r4, t1, t2, t3, t4, t5, c1, c2, go_sem, ↓reduceIte, reduceCtorEq, Nat.reduceAdd, Nat.reduceSub, Nat.reducePow, Nat.reduceMul, Nat.reduceEqDiff, Nat.reduceLT, Nat.reduceLeDiff, Int.reduceToNat, Int.reduceLT, Int.reduceLE, Int.reduceEq, Int.reduceNeg, Int.reduceAdd, Int.reduceSub, Int.reduceMul]
  refine gfc_same (rwithin_fc _ v n w m a b ha hb) ?_
  simp (disch := first | omega | (simp only [List.length_append, List.length_cons, List.length_nil]; omega)) only [t1, t2, t3, t4, t5, c1, c2, go_sem, ↓reduceIte, reduceCtorEq, Nat.reduceAdd, Nat.reduceSub, Nat.reducePow, Nat.reduceMul, Nat.reduceEqDiff, Nat.reduceLT, Nat.reduceLeDiff, Int.reduceToNat, Int.reduceLT, Int.reduceLE, Int.reduceEq, Int.reduceNeg, Int.reduceAdd, Int.reduceSub, Int.reduceMul]
  refine gfc_same (rwithin_fc _ w m v n b a hb ha) ?_
  simp (disch := first | omega | (simp only [List.length_append, List.length_cons, List.length_nil]; omega)) only [t1, t2, t3, t4, t5, c1, c2, go_sem, ↓reduceIte, reduceCtorEq, Nat.reduceAdd, Nat.reduceSub, Nat.reducePow, Nat.reduceMul, Nat.reduceEqDiff, Nat.reduceLT, Nat.reduceLeDiff, Int.reduceToNat, Int.reduceLT, Int.reduceLE, Int.reduceEq, Int.reduceNeg, Int.reduceAdd, Int.reduceSub, Int.reduceMul]
  refine xfc_of (L07.live07 _) ?_
  rintro d h' ⟨rfl, rfl⟩
  refine ⟨⟨[], (List.append_nil _).symm⟩, ?_⟩
  simp (disch := first | omega | (simp only [List.length_append, List.length_cons, List.length_nil]; omega)) only [t1, t2, t3, t4, t5, c1, c2, go_sem, ↓reduceIte, reduceCtorEq, Nat.reduceAdd, Nat.reduceSub, Nat.reducePow, Nat.reduceMul, Nat.reduceEqDiff, Nat.reduceLT, Nat.reduceLeDiff, Int.reduceToNat, Int.reduceLT, Int.reduceLE, Int.reduceEq, Int.reduceNeg, Int.reduceAdd, Int.reduceSub, Int.reduceMul]
  refine xfc_same (eh _ v n x a c ha hc) ?_
  simp (disch := first | omega | (simp only [List.length_append, List.length_cons, List.length_nil]; omega)) only [go_sem, ↓reduceIte, reduceCtorEq, Nat.reduceAdd, Nat.reduceSub, Nat.reducePow, Nat.reduceMul, Nat.reduceEqDiff, Nat.reduceLT, Nat.reduceLeDiff, Int.reduceToNat, Int.reduceLT, Int.reduceLE, Int.reduceEq, Int.reduceNeg, Int.reduceAdd, Int.reduceSub, Int.reduceMul]
  refine xfc_same (eh2 _ v n x a c ha hc) ?_
  simp (disch := first | omega | (simp only [List.length_append, List.length_cons, List.length_nil]; omega)) only [t1, t2, t3, t4, t5, c1, c2, bool_same, go_sem, ↓reduceIte, reduceCtorEq, Nat.reduceAdd, Nat.reduceSub, Nat.reducePow, Nat.reduceMul, Nat.reduceEqDiff, Nat.reduceLT, Nat.reduceLeDiff, Int.reduceToNat, Int.reduceLT, Int.reduceLE, Int.reduceEq, Int.reduceNeg, Int.reduceAdd, Int.reduceSub, Int.reduceMul]
  refine xfc_same (pwithin_fc _ v n w m a b ha hb) ?_
  simp (disch := first | omega | (simp only [List.length_append, List.length_cons, List.length_nil]; omega)) only [t1, t2, t3, t4, t5, c1, c2, bool_same, go_sem, ↓reduceIte, reduceCtorEq, Nat.reduceAdd, Nat.reduceSub, Nat.reducePow, Nat.reduceMul, Nat.reduceEqDiff, Nat.reduceLT, Nat.reduceLeDiff, Int.reduceToNat, Int.reduceLT, Int.reduceLE, Int.reduceEq, Int.reduceNeg, Int.reduceAdd, Int.reduceSub, Int.reduceMul]
  refine xfc_same (pmeet_fc _ v n w m a b ha hb) ?_
  cases withinF v a n w b m <;> cases withinF w b m v a n
  all_goals
    simp (disch := first | omega | (simp only [List.length_append, List.length_cons, List.length_nil]; omega)) only [bool_same, Bool.or_true, Bool.or_false, go_sem, ↓reduceIte, reduceCtorEq, Nat.reduceAdd, Nat.reduceSub, Nat.reducePow, Nat.reduceMul, Nat.reduceEqDiff, Nat.reduceLT, Nat.reduceLeDiff, Int.reduceToNat, Int.reduceLT, Int.reduceLE, Int.reduceEq, Int.reduceNeg, Int.reduceAdd, Int.reduceSub, Int.reduceMul]
    exact FinOk.drop (.inl rfl) (by simp [underL, underD]) ⟨rfl, rfl⟩
theorem has_row (h : Heap) (x0 : (Sh.arr 2 (.pair (.int .i64) (.pair (.arr 16 (.int .u8)) (.pair (.int .i64) .unit)))).T) (ok0 : (Sh.arr 2 (.pair (.int .i64) (.pair (.arr 16 (.int .u8)) (.pair (.int .i64) .unit)))).ok x0) (x1 : (Sh.int .i64).T) (ok1 : (Sh.int .i64).ok x1) (x2 : (Sh.arr 16 (.int .u8)).T) (ok2 : (Sh.arr 16 (.int .u8)).ok x2)
    (hv : (Sh.arr 2 (.pair (.int .i64) (.pair (.arr 16 (.int .u8)) (.pair (.int .i64) .unit)))).vol x0 + (Sh.int .i64).vol x1 + (Sh.arr 16 (.int .u8)).vol x2 ≤ 1048576)
    (D0 : D) (en0 : (Sh.arr 2 (.pair (.int .i64) (.pair (.arr 16 (.int .u8)) (.pair (.int .i64) .unit)))).EncV x0 D0) (D1 : D) (en1 : (Sh.int .i64).EncV x1 D1) (D2 : D) (en2 : (Sh.arr 16 (.int .u8)).EncV x2 D2) : FC Try.prog 6 [D0, D1, D2] h fun d h' => d = .bool true ∧ h' = h := by
  obtain ⟨cs, h1, rfl⟩ := en0
  obtain ⟨p, q, c1, c2, h2, h3, h4, rfl⟩ := encL_two ok0.1 h1
  obtain ⟨v, a, n, ha, rfl, -⟩ := pc_enc (ok0.2 p (by rw [h2]; simp)) h3
  obtain ⟨w, b, m, hb, rfl, -⟩ := pc_enc (ok0.2 q (by rw [h2]; simp)) h4
  obtain ⟨c, hc, rfl⟩ := arr_u8 ok2 en2
  simp only [Sh.EncV] at en1
  subst en1
  exact has_law h v n w m x1 a b c ha hb hc
end Go.Proofs
