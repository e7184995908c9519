/-
  Own work. The walk of ShadowTells.
-/
import Derived.Test.YtodlpcoffmnmbaaDoorJm
import Derived.Test.YtodlpcoffmnmbaaDoorJc
import Derived.Test.YtodlpcoffmnmbaaDoorRb
namespace Go.Proofs
open Go Go.YtodlpcoffmnmbaaDoor
set_option linter.unusedVariables false
set_option linter.unusedSimpArgs false
set_option maxRecDepth 10000

/-! ### weighbridge/weighbridgelaw23.ShadowTells, params 2 -/
def c3r0 : List AStm := [.op (some 2) none (.box (.t 0)),
    .op (some 3) none (.box (.t 1)),
    .op (some 4) none (.mv (.c (.bool false)))]
def c3r1 : List AStm := [.op (some 10) none (.load (some 43) (.t 2)),
    .op (some 11) none (.load (some 43) (.t 3)),
    .call (some 12) none (.c (.fn (.func 4) [] [])) [(.t 10), (.t 11)],
    .op (some 9) none (.mv (.t 12)),
    .op (some 13) none (.ext (.t 9) 0),
    .op (some 14) none (.ext (.t 9) 1),
    .op (some 5) none (.alloc [(.int .i64 0), (.int .u8 0), (.int .u8 0), (.int .u8 0), (.int .u8 0), (.int .u8 0), (.int .u8 0), (.int .u8 0), (.int .u8 0), (.int .u8 0), (.int .u8 0), (.int .u8 0), (.int .u8 0), (.int .u8 0), (.int .u8 0), (.int .u8 0), (.int .u8 0), (.int .u8 0), (.int .u8 0), (.int .u8 0), (.int .u8 0), (.int .u8 0), (.int .u8 0), (.int .u8 0), (.int .u8 0), (.int .u8 0), (.int .u8 0), (.int .u8 0), (.int .u8 0), (.int .u8 0), (.int .u8 0), (.int .u8 0), (.int .u8 0), (.int .i64 0), (.int .i64 0), (.bool false), (.int .i64 0), (.int .i64 0)]),
    .op none none (.store 38 (.t 5) (.t 13)),
    .op (some 6) none (.mv (.t 14))]
def c3r2 : List AStm := [.op (some 16) none (.load (some 43) (.t 2)),
    .op (some 17) none (.load (some 43) (.t 3)),
    .call (some 18) none (.c (.fn (.func 5) [] [])) [(.t 16), (.t 17)],
    .op (some 15) none (.mv (.t 18)),
    .op (some 19) none (.ext (.t 15) 0),
    .op (some 20) none (.ext (.t 15) 1),
    .op (some 7) none (.alloc [(.int .i64 0), (.int .u8 0), (.int .u8 0), (.int .u8 0), (.int .u8 0), (.int .u8 0), (.int .u8 0), (.int .u8 0), (.int .u8 0), (.int .u8 0), (.int .u8 0), (.int .u8 0), (.int .u8 0), (.int .u8 0), (.int .u8 0), (.int .u8 0), (.int .u8 0), (.int .u8 0), (.int .u8 0), (.int .u8 0), (.int .u8 0), (.int .u8 0), (.int .u8 0), (.int .u8 0), (.int .u8 0), (.int .u8 0), (.int .u8 0), (.int .u8 0), (.int .u8 0), (.int .u8 0), (.int .u8 0), (.int .u8 0), (.int .u8 0), (.int .i64 0), (.int .i64 0), (.bool false), (.int .i64 0), (.int .i64 0)]),
    .op none none (.store 38 (.t 7) (.t 19)),
    .op (some 8) none (.mv (.t 20))]
def c3r3 : List AStm := []
def c3r4 : List AStm := [.callG (some 21) none (.c (.fn (.func 6) [] [])) [],
    .op (some 22) none (.mv (.t 21)),
    .op (some 23) (some (22, true)) (.load (some 43) (.t 2)),
    .op (some 24) (some (22, true)) (.load (some 43) (.t 3)),
    .op (some 26) (some (22, true)) (.load (some 43) (.t 2)),
    .op (some 27) (some (22, true)) (.load (some 43) (.t 3)),
    .callG (some 25) (some (22, true)) (.c (.fn (.func 7) [] [])) [(.t 23), (.t 24)],
    .callG (some 28) (some (22, true)) (.c (.fn (.func 8) [] [])) [(.t 26), (.t 27)],
    .op (some 29) (some (22, true)) (.eqb false (.t 25) (.t 28)),
    .op (some 30) none (.pick (.t 22) (.t 29) (.c (.bool false))),
    .op (some 31) none (.mv (.t 30)),
    .op (some 32) (some (31, true)) (.load (some 38) (.t 5)),
    .op (some 33) (some (31, true)) (.load (some 38) (.t 7)),
    .op (some 34) (some (31, true)) (.eqa false [.ki, .ki, .ki, .ki, .ki, .ki, .ki, .ki, .ki, .ki, .ki, .ki, .ki, .ki, .ki, .ki, .ki, .ki, .ki, .ki, .ki, .ki, .ki, .ki, .ki, .ki, .ki, .ki, .ki, .ki, .ki, .ki, .ki, .ki, .ki, .kb, .ki, .ki] (.t 32) (.t 33)),
    .op (some 35) none (.pick (.t 31) (.t 34) (.c (.bool false))),
    .op (some 36) none (.mv (.t 35)),
    .op (some 37) (some (36, true)) (.mv (.t 6)),
    .op (some 38) (some (36, true)) (.mv (.t 8)),
    .op (some 39) (some (36, true)) (.eqb false (.t 37) (.t 38)),
    .op (some 40) none (.pick (.t 36) (.t 39) (.c (.bool false))),
    .op (some 41) none (.mv (.t 40)),
    .op (some 42) (some (41, true)) (.load (some 43) (.t 2)),
    .op (some 43) (some (41, true)) (.load (some 43) (.t 3)),
    .op (some 45) (some (41, true)) (.mv (.t 8)),
    .callG (some 44) (some (41, true)) (.c (.fn (.func 9) [] [])) [(.t 42), (.t 43)],
    .op (some 46) (some (41, true)) (.eqb false (.t 44) (.t 45)),
    .op (some 47) none (.pick (.t 41) (.t 46) (.c (.bool false))),
    .op (some 48) none (.mv (.t 47)),
    .op (some 49) (some (48, true)) (.load (some 43) (.t 2)),
    .op (some 51) (some (48, true)) (.load (some 43) (.t 2)),
    .callG (some 50) (some (48, true)) (.c (.fn (.func 10) [] [])) [(.t 49)],
    .call (some 52) (some (48, true)) (.c (.fn (.func 11) [] [])) [(.t 51)],
    .op (some 53) (some (48, true)) (.eqb false (.t 50) (.t 52)),
    .op (some 54) none (.pick (.t 48) (.t 53) (.c (.bool false))),
    .op (some 4) none (.mv (.t 54))]
def c3 : CF := ⟨.seq (.reg c3r0) (.seq (.reg c3r1) (.seq (.reg c3r2) (.seq (.dreg c3r3 c3r4) (.ret)))), [.tmp 4], 55⟩
theorem cf3 : cfun Tryd.prog 3 = some c3 := by kernel_rfl



theorem ki_app : ∀ (l : List D) {ss : List SK} {a : List D}, (∀ d ∈ l, ∃ k n, d = .int k n) → eqCells ss a a = some true → eqCells (List.replicate l.length .ki ++ ss) (l ++ a) (l ++ a) = some true
  | [], _, _, _, h => h
  | d :: l, ss, a, h, ha => by
    obtain ⟨k, n, rfl⟩ := h d (by simp)
    have ih := ki_app l (fun d hd => h d (by simp [hd])) ha
    rw [List.length_cons, List.replicate_succ]
    simp only [List.cons_append, eqCells, ih, ek_i, Option.bind_some, Option.map_some, Bool.and_true]
    simp
theorem bytes_ints (l : List UInt8) : ∀ d ∈ ofBytes l, ∃ k n, d = .int k n := by
  intro d hd
  simp only [ofBytes, List.mem_map] at hd
  obtain ⟨b, _, rfl⟩ := hd
  exact ⟨_, _, rfl⟩
theorem ky_same {k : Ky} (kok : k.Ok) : eqCells [.ki, .ki, .ki, .ki, .ki, .ki, .ki, .ki, .ki, .ki, .ki, .ki, .ki, .ki, .ki, .ki, .ki, .ki, .ki, .ki, .ki, .ki, .ki, .ki, .ki, .ki, .ki, .ki, .ki, .ki, .ki, .ki, .ki, .ki, .ki, .kb, .ki, .ki] (ky k) (ky k) = some true := by
  have hl : (D.int .i64 k.v :: (ofBytes k.s ++ (ofBytes k.d ++ [D.int .i64 k.proto, .int .i64 k.dscp]))).length = 35 := by
    simp only [List.length_cons, List.length_append, ofBytes_length, kok.s, kok.d, List.length_nil]
  have e : ky k = (D.int .i64 k.v :: (ofBytes k.s ++ (ofBytes k.d ++ [D.int .i64 k.proto, .int .i64 k.dscp]))) ++ [.bool k.ports, .int .i64 k.sp, .int .i64 k.dp] := by
    show _ :: (ofBytes k.s ++ (ofBytes k.d ++ [_, _, _, _, _])) = _
    simp only [List.cons_append, List.append_assoc, List.nil_append]
  have hr := ki_app (D.int .i64 k.v :: (ofBytes k.s ++ (ofBytes k.d ++ [D.int .i64 k.proto, .int .i64 k.dscp]))) (ss := [.kb, .ki, .ki]) (a := [.bool k.ports, .int .i64 k.sp, .int .i64 k.dp]) (by
    intro d hd
    simp only [List.mem_cons, List.mem_append, List.not_mem_nil, or_false] at hd
    rcases hd with rfl | hd | hd | rfl | rfl
    · exact ⟨_, _, rfl⟩
    · exact bytes_ints _ d hd
    · exact bytes_ints _ d hd
    · exact ⟨_, _, rfl⟩
    · exact ⟨_, _, rfl⟩) (by simp [eqCells, ek_i, ek_b])
  rw [hl, ← e] at hr
  exact hr
theorem tells_law (h : Heap) (a b : Ru) (oa : a.Ok) (ob : b.Ok) : FC Tryd.prog 3 [.agg (ru a), .agg (ru b)] h fun d h' => d = .bool true ∧ h' = h := by
  have la := ru_len oa
  have lb := ru_len ob
  have kw := witK_ok oa ob
  have kl := ky_len kw
  have k1 := ky_one kw
  have kt := ky_take kw
  have ks := ky_same kw
  refine FC.goes cf3 ?_; simp only [c3]; simp only [List.length_cons, List.length_nil, Nat.reduceAdd, Nat.reduceSub, List.replicate_succ, List.replicate_zero, List.cons_append, List.nil_append]
  simp (disch := first | omega | (simp only [List.length_append, List.length_cons, List.length_nil]; omega)) only [c3r0, c3r1, c3r2, c3r3, c3r4, la, lb, ru_one, ru_take, oa, ob, go_sem, ↓reduceIte, reduceCtorEq, Nat.reduceAdd, Nat.reduceSub, Nat.reducePow, Nat.reduceMul, Nat.reduceEqDiff, Nat.reduceLT, Nat.reduceLeDiff, Int.reduceToNat, Int.reduceLT, Int.reduceLE, Int.reduceEq, Int.reduceNeg, Int.reduceAdd, Int.reduceSub, Int.reduceMul]
  refine gfc_same (witness_fc _ a b oa ob) ?_
  simp (disch := first | omega | (simp only [List.length_append, List.length_cons, List.length_nil]; omega)) only [la, lb, ru_one, ru_take, oa, ob, kl, k1, kt, go_sem, ↓reduceIte, reduceCtorEq, Nat.reduceAdd, Nat.reduceSub, Nat.reducePow, Nat.reduceMul, Nat.reduceEqDiff, Nat.reduceLT, Nat.reduceLeDiff, Int.reduceToNat, Int.reduceLT, Int.reduceLE, Int.reduceEq, Int.reduceNeg, Int.reduceAdd, Int.reduceSub, Int.reduceMul]
  refine gfc_same (rwitness_fc _ a b oa ob) ?_
  simp (disch := first | omega | (simp only [List.length_append, List.length_cons, List.length_nil]; omega)) only [la, lb, ru_one, ru_take, oa, ob, kl, k1, kt, go_sem, ↓reduceIte, reduceCtorEq, Nat.reduceAdd, Nat.reduceSub, Nat.reducePow, Nat.reduceMul, Nat.reduceEqDiff, Nat.reduceLT, Nat.reduceLeDiff, Int.reduceToNat, Int.reduceLT, Int.reduceLE, Int.reduceEq, Int.reduceNeg, Int.reduceAdd, Int.reduceSub, Int.reduceMul]
  refine xfc_same (L23.live23 _) ?_
  simp (disch := first | omega | (simp only [List.length_append, List.length_cons, List.length_nil]; omega)) only [la, lb, ru_one, ru_take, oa, ob, kl, k1, kt, go_sem, ↓reduceIte, reduceCtorEq, Nat.reduceAdd, Nat.reduceSub, Nat.reducePow, Nat.reduceMul, Nat.reduceEqDiff, Nat.reduceLT, Nat.reduceLeDiff, Int.reduceToNat, Int.reduceLT, Int.reduceLE, Int.reduceEq, Int.reduceNeg, Int.reduceAdd, Int.reduceSub, Int.reduceMul]
  refine xfc_same (covers_fc _ a b oa ob) ?_
  simp (disch := first | omega | (simp only [List.length_append, List.length_cons, List.length_nil]; omega)) only [la, lb, ru_one, ru_take, oa, ob, kl, k1, kt, go_sem, ↓reduceIte, reduceCtorEq, Nat.reduceAdd, Nat.reduceSub, Nat.reducePow, Nat.reduceMul, Nat.reduceEqDiff, Nat.reduceLT, Nat.reduceLeDiff, Int.reduceToNat, Int.reduceLT, Int.reduceLE, Int.reduceEq, Int.reduceNeg, Int.reduceAdd, Int.reduceSub, Int.reduceMul]
  refine xfc_same (rcovers_fc _ a b oa ob) ?_
  simp (disch := first | omega | (simp only [List.length_append, List.length_cons, List.length_nil]; omega)) only [la, lb, ru_one, ru_take, oa, ob, kl, k1, kt, bool_same, ks, go_sem, ↓reduceIte, reduceCtorEq, Nat.reduceAdd, Nat.reduceSub, Nat.reducePow, Nat.reduceMul, Nat.reduceEqDiff, Nat.reduceLT, Nat.reduceLeDiff, Int.reduceToNat, Int.reduceLT, Int.reduceLE, Int.reduceEq, Int.reduceNeg, Int.reduceAdd, Int.reduceSub, Int.reduceMul]
  refine xfc_same (meets_fc _ a b oa ob) ?_
  simp (disch := first | omega | (simp only [List.length_append, List.length_cons, List.length_nil]; omega)) only [la, lb, ru_one, ru_take, oa, ob, kl, k1, kt, bool_same, ks, go_sem, ↓reduceIte, reduceCtorEq, Nat.reduceAdd, Nat.reduceSub, Nat.reducePow, Nat.reduceMul, Nat.reduceEqDiff, Nat.reduceLT, Nat.reduceLeDiff, Int.reduceToNat, Int.reduceLT, Int.reduceLE, Int.reduceEq, Int.reduceNeg, Int.reduceAdd, Int.reduceSub, Int.reduceMul]
  refine xfc_same (dead_fc _ a oa) ?_
  simp (disch := first | omega | (simp only [List.length_append, List.length_cons, List.length_nil]; omega)) only [la, lb, ru_one, ru_take, oa, ob, kl, k1, kt, bool_same, ks, go_sem, ↓reduceIte, reduceCtorEq, Nat.reduceAdd, Nat.reduceSub, Nat.reducePow, Nat.reduceMul, Nat.reduceEqDiff, Nat.reduceLT, Nat.reduceLeDiff, Int.reduceToNat, Int.reduceLT, Int.reduceLE, Int.reduceEq, Int.reduceNeg, Int.reduceAdd, Int.reduceSub, Int.reduceMul]
  refine gfc_same (rdead_fc _ a oa) ?_
  simp (disch := first | omega | (simp only [List.length_append, List.length_cons, List.length_nil]; omega)) only [la, lb, ru_one, ru_take, oa, ob, kl, k1, kt, bool_same, ks, go_sem, ↓reduceIte, reduceCtorEq, Nat.reduceAdd, Nat.reduceSub, Nat.reducePow, Nat.reduceMul, Nat.reduceEqDiff, Nat.reduceLT, Nat.reduceLeDiff, Int.reduceToNat, Int.reduceLT, Int.reduceLE, Int.reduceEq, Int.reduceNeg, Int.reduceAdd, Int.reduceSub, Int.reduceMul]
  exact FinOk.drop (.inl rfl) (by simp [underL, underD]) ⟨rfl, rfl⟩
theorem tells_row (h : Heap) (x0 : (Sh.pair (.pair (.int .i64) (.pair (.arr 16 (.int .u8)) (.pair (.int .i64) .unit))) (.pair (.pair (.int .i64) (.pair (.arr 16 (.int .u8)) (.pair (.int .i64) .unit))) (.pair (.pair (.int .i64) (.pair (.int .i64) .unit)) (.pair (.pair (.int .i64) (.pair (.int .i64) .unit)) (.pair (.int .i64) (.pair (.int .i64) (.pair (.int .i64) .unit))))))).T) (ok0 : (Sh.pair (.pair (.int .i64) (.pair (.arr 16 (.int .u8)) (.pair (.int .i64) .unit))) (.pair (.pair (.int .i64) (.pair (.arr 16 (.int .u8)) (.pair (.int .i64) .unit))) (.pair (.pair (.int .i64) (.pair (.int .i64) .unit)) (.pair (.pair (.int .i64) (.pair (.int .i64) .unit)) (.pair (.int .i64) (.pair (.int .i64) (.pair (.int .i64) .unit))))))).ok x0) (x1 : (Sh.pair (.pair (.int .i64) (.pair (.arr 16 (.int .u8)) (.pair (.int .i64) .unit))) (.pair (.pair (.int .i64) (.pair (.arr 16 (.int .u8)) (.pair (.int .i64) .unit))) (.pair (.pair (.int .i64) (.pair (.int .i64) .unit)) (.pair (.pair (.int .i64) (.pair (.int .i64) .unit)) (.pair (.int .i64) (.pair (.int .i64) (.pair (.int .i64) .unit))))))).T) (ok1 : (Sh.pair (.pair (.int .i64) (.pair (.arr 16 (.int .u8)) (.pair (.int .i64) .unit))) (.pair (.pair (.int .i64) (.pair (.arr 16 (.int .u8)) (.pair (.int .i64) .unit))) (.pair (.pair (.int .i64) (.pair (.int .i64) .unit)) (.pair (.pair (.int .i64) (.pair (.int .i64) .unit)) (.pair (.int .i64) (.pair (.int .i64) (.pair (.int .i64) .unit))))))).ok x1)
    (hv : (Sh.pair (.pair (.int .i64) (.pair (.arr 16 (.int .u8)) (.pair (.int .i64) .unit))) (.pair (.pair (.int .i64) (.pair (.arr 16 (.int .u8)) (.pair (.int .i64) .unit))) (.pair (.pair (.int .i64) (.pair (.int .i64) .unit)) (.pair (.pair (.int .i64) (.pair (.int .i64) .unit)) (.pair (.int .i64) (.pair (.int .i64) (.pair (.int .i64) .unit))))))).vol x0 + (Sh.pair (.pair (.int .i64) (.pair (.arr 16 (.int .u8)) (.pair (.int .i64) .unit))) (.pair (.pair (.int .i64) (.pair (.arr 16 (.int .u8)) (.pair (.int .i64) .unit))) (.pair (.pair (.int .i64) (.pair (.int .i64) .unit)) (.pair (.pair (.int .i64) (.pair (.int .i64) .unit)) (.pair (.int .i64) (.pair (.int .i64) (.pair (.int .i64) .unit))))))).vol x1 ≤ 1048576)
    (D0 : D) (en0 : (Sh.pair (.pair (.int .i64) (.pair (.arr 16 (.int .u8)) (.pair (.int .i64) .unit))) (.pair (.pair (.int .i64) (.pair (.arr 16 (.int .u8)) (.pair (.int .i64) .unit))) (.pair (.pair (.int .i64) (.pair (.int .i64) .unit)) (.pair (.pair (.int .i64) (.pair (.int .i64) .unit)) (.pair (.int .i64) (.pair (.int .i64) (.pair (.int .i64) .unit))))))).EncV x0 D0) (D1 : D) (en1 : (Sh.pair (.pair (.int .i64) (.pair (.arr 16 (.int .u8)) (.pair (.int .i64) .unit))) (.pair (.pair (.int .i64) (.pair (.arr 16 (.int .u8)) (.pair (.int .i64) .unit))) (.pair (.pair (.int .i64) (.pair (.int .i64) .unit)) (.pair (.pair (.int .i64) (.pair (.int .i64) .unit)) (.pair (.int .i64) (.pair (.int .i64) (.pair (.int .i64) .unit))))))).EncV x1 D1) : FC Tryd.prog 3 [D0, D1] h fun d h' => d = .bool true ∧ h' = h := by
  obtain ⟨a, oa, rfl⟩ := ru_open ok0 en0
  obtain ⟨b, ob, rfl⟩ := ru_open ok1 en1
  exact tells_law h a b oa ob
end Go.Proofs
