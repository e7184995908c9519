/-
  Own work. The walk of PrefixChecks.
-/
import Derived.Test.YtodlpcoffmnmbaaLa
import Derived.Test.YtodlpcoffmnmbaaPg
import Derived.Test.YtodlpcoffmnmbaaPh
namespace Go.Proofs
open Go Go.Ytodlpcoffmnmbaa
set_option linter.unusedVariables false
set_option linter.unusedSimpArgs false
set_option maxRecDepth 10000

/-! ### weighbridge/weighbridgelaw07.PrefixChecks, params 3 -/
def c5r0 : List AStm := [.op (some 3) none (.box (.t 0)),
    .op (some 4) none (.box (.t 1)),
    .op (some 5) none (.box (.t 2)),
    .op (some 6) none (.mv (.c (.bool false)))]
def c5r1 : List AStm := [.op (some 18) none (.ixa 2 1 (.t 5) (.c (.int .i64 0))),
    .op (some 19) none (.load none (.t 18)),
    .op (some 20) none (.load (some 16) (.t 4)),
    .op (some 21) none (.ixa 2 1 (.t 5) (.c (.int .i64 1))),
    .op (some 22) none (.load none (.t 21)),
    .call (some 23) none (.c (.fn (.func 17) [] [])) [(.t 19), (.t 20), (.t 22)],
    .op (some 17) none (.mv (.t 23)),
    .op (some 24) none (.ext (.t 17) 0),
    .op (some 25) none (.ext (.t 17) 1),
    .op (some 7) none (.alloc [(.int .i64 0), (.int .u8 0), (.int .u8 0), (.int .u8 0), (.int .u8 0), (.int .u8 0), (.int .u8 0), (.int .u8 0), (.int .u8 0), (.int .u8 0), (.int .u8 0), (.int .u8 0), (.int .u8 0), (.int .u8 0), (.int .u8 0), (.int .u8 0), (.int .u8 0), (.int .i64 0)]),
    .op none none (.store 18 (.t 7) (.t 24)),
    .op (some 8) none (.mv (.t 25))]
def c5r2 : List AStm := [.op (some 27) none (.ixa 2 1 (.t 5) (.c (.int .i64 0))),
    .op (some 28) none (.load none (.t 27)),
    .op (some 29) none (.load (some 16) (.t 4)),
    .op (some 30) none (.ixa 2 1 (.t 5) (.c (.int .i64 1))),
    .op (some 31) none (.load none (.t 30)),
    .call (some 32) none (.c (.fn (.func 18) [] [])) [(.t 28), (.t 29), (.t 31)],
    .op (some 26) none (.mv (.t 32)),
    .op (some 33) none (.ext (.t 26) 0),
    .op (some 34) none (.ext (.t 26) 1),
    .op (some 9) none (.alloc [(.int .i64 0), (.int .u8 0), (.int .u8 0), (.int .u8 0), (.int .u8 0), (.int .u8 0), (.int .u8 0), (.int .u8 0), (.int .u8 0), (.int .u8 0), (.int .u8 0), (.int .u8 0), (.int .u8 0), (.int .u8 0), (.int .u8 0), (.int .u8 0), (.int .u8 0), (.int .i64 0)]),
    .op none none (.store 18 (.t 9) (.t 33)),
    .op (some 10) none (.mv (.t 34))]
def c5r3 : List AStm := [.op (some 36) none (.load (some 18) (.t 3)),
    .call (some 37) none (.c (.fn (.func 19) [] [])) [(.t 36)],
    .op (some 35) none (.mv (.t 37)),
    .op (some 38) none (.ext (.t 35) 0),
    .op (some 39) none (.ext (.t 35) 1),
    .op (some 40) none (.ext (.t 35) 2),
    .op (some 11) none (.alloc [(.int .i64 0), (.int .u8 0), (.int .u8 0), (.int .u8 0), (.int .u8 0), (.int .u8 0), (.int .u8 0), (.int .u8 0), (.int .u8 0), (.int .u8 0), (.int .u8 0), (.int .u8 0), (.int .u8 0), (.int .u8 0), (.int .u8 0), (.int .u8 0), (.int .u8 0), (.int .i64 0)]),
    .op (some 12) none (.alloc [(.int .i64 0), (.int .u8 0), (.int .u8 0), (.int .u8 0), (.int .u8 0), (.int .u8 0), (.int .u8 0), (.int .u8 0), (.int .u8 0), (.int .u8 0), (.int .u8 0), (.int .u8 0), (.int .u8 0), (.int .u8 0), (.int .u8 0), (.int .u8 0), (.int .u8 0), (.int .i64 0)]),
    .op none none (.store 18 (.t 11) (.t 38)),
    .op none none (.store 18 (.t 12) (.t 39)),
    .op (some 13) none (.mv (.t 40))]
def c5r4 : List AStm := [.op (some 42) none (.load (some 18) (.t 3)),
    .call (some 43) none (.c (.fn (.func 20) [] [])) [(.t 42)],
    .op (some 41) none (.mv (.t 43)),
    .op (some 44) none (.ext (.t 41) 0),
    .op (some 45) none (.ext (.t 41) 1),
    .op (some 46) none (.ext (.t 41) 2),
    .op (some 14) none (.alloc [(.int .i64 0), (.int .u8 0), (.int .u8 0), (.int .u8 0), (.int .u8 0), (.int .u8 0), (.int .u8 0), (.int .u8 0), (.int .u8 0), (.int .u8 0), (.int .u8 0), (.int .u8 0), (.int .u8 0), (.int .u8 0), (.int .u8 0), (.int .u8 0), (.int .u8 0), (.int .i64 0)]),
    .op (some 15) none (.alloc [(.int .i64 0), (.int .u8 0), (.int .u8 0), (.int .u8 0), (.int .u8 0), (.int .u8 0), (.int .u8 0), (.int .u8 0), (.int .u8 0), (.int .u8 0), (.int .u8 0), (.int .u8 0), (.int .u8 0), (.int .u8 0), (.int .u8 0), (.int .u8 0), (.int .u8 0), (.int .i64 0)]),
    .op none none (.store 18 (.t 14) (.t 44)),
    .op none none (.store 18 (.t 15) (.t 45)),
    .op (some 16) none (.mv (.t 46))]
def c5r5 : List AStm := []
def c5r6 : List AStm := [.callG (some 47) none (.c (.fn (.func 21) [] [])) [],
    .op (some 48) none (.mv (.t 47)),
    .op (some 49) (some (48, true)) (.load (some 18) (.t 3)),
    .op (some 51) (some (48, true)) (.load (some 18) (.t 3)),
    .callG (some 50) (some (48, true)) (.c (.fn (.func 22) [] [])) [(.t 49)],
    .callG (some 52) (some (48, true)) (.c (.fn (.func 23) [] [])) [(.t 51)],
    .op (some 53) (some (48, true)) (.bin .eql (.t 50) (.t 52)),
    .op (some 54) none (.pick (.t 48) (.t 53) (.c (.bool false))),
    .op (some 55) none (.mv (.t 54)),
    .op (some 56) (some (55, true)) (.load (some 18) (.t 7)),
    .op (some 57) (some (55, true)) (.load (some 18) (.t 9)),
    .op (some 58) (some (55, true)) (.eqa false (List.replicate 18 .ki) (.t 56) (.t 57)),
    .op (some 59) none (.pick (.t 55) (.t 58) (.c (.bool false))),
    .op (some 60) none (.mv (.t 59)),
    .op (some 61) (some (60, true)) (.mv (.t 8)),
    .op (some 62) (some (60, true)) (.mv (.t 10)),
    .op (some 63) (some (60, true)) (.bin .eql (.t 61) (.t 62)),
    .op (some 64) none (.pick (.t 60) (.t 63) (.c (.bool false))),
    .op (some 65) none (.mv (.t 64)),
    .op (some 66) (some (65, true)) (.load (some 18) (.t 11)),
    .op (some 67) (some (65, true)) (.load (some 18) (.t 14)),
    .op (some 68) (some (65, true)) (.eqa false (List.replicate 18 .ki) (.t 66) (.t 67)),
    .op (some 69) none (.pick (.t 65) (.t 68) (.c (.bool false))),
    .op (some 70) none (.mv (.t 69)),
    .op (some 71) (some (70, true)) (.load (some 18) (.t 12)),
    .op (some 72) (some (70, true)) (.load (some 18) (.t 15)),
    .op (some 73) (some (70, true)) (.eqa false (List.replicate 18 .ki) (.t 71) (.t 72)),
    .op (some 74) none (.pick (.t 70) (.t 73) (.c (.bool false))),
    .op (some 75) none (.mv (.t 74)),
    .op (some 76) (some (75, true)) (.mv (.t 13)),
    .op (some 77) (some (75, true)) (.mv (.t 16)),
    .op (some 78) (some (75, true)) (.eqb false (.t 76) (.t 77)),
    .op (some 79) none (.pick (.t 75) (.t 78) (.c (.bool false))),
    .op (some 80) none (.mv (.t 79)),
    .op (some 81) (some (80, true)) (.load (some 18) (.t 3)),
    .op (some 83) (some (80, true)) (.load (some 18) (.t 3)),
    .callG (some 82) (some (80, true)) (.c (.fn (.func 24) [] [])) [(.t 81)],
    .call (some 84) (some (80, true)) (.c (.fn (.func 25) [] [])) [(.t 83)],
    .op (some 85) (some (80, true)) (.eqa false (List.replicate 16 .ki) (.t 82) (.t 84)),
    .op (some 86) none (.pick (.t 80) (.t 85) (.c (.bool false))),
    .op (some 6) none (.mv (.t 86))]
def c5 : CF := ⟨.seq (.reg c5r0) (.seq (.reg c5r1) (.seq (.reg c5r2) (.seq (.reg c5r3) (.seq (.reg c5r4) (.seq (.dreg c5r5 c5r6) (.ret)))))), [.tmp 6], 87⟩
theorem cf5 : cfun Try.prog 5 = some c5 := by kernel_rfl



theorem ki_same : ∀ l : List D, (∀ d ∈ l, ∃ k n, d = .int k n) → eqCells (List.replicate l.length .ki) l l = some true
  | [], _ => rfl
  | d :: l, h => by
    obtain ⟨k, n, rfl⟩ := h d (by simp)
    have ih := ki_same l fun d hd => h d (by simp [hd])
    rw [List.length_cons, List.replicate_succ]
    simp only [eqCells, ih, ek_i, Option.bind_some, Option.map_some, Bool.and_true]
    simp
theorem bytes_int (l : List UInt8) : ∀ d ∈ ofBytes l, ∃ k n, d = .int k n := by
  intro d hd
  simp only [ofBytes, List.mem_map] at hd
  obtain ⟨b, _, rfl⟩ := hd
  exact ⟨_, _, rfl⟩
theorem pc_same {v n : Int} {a : List UInt8} (ha : a.length = 16) : eqCells (List.replicate 18 .ki) (pc v a n) (pc v a n) = some true := by
  have := ki_same (pc v a n) (by
    intro d hd
    simp only [pc, List.mem_cons, List.mem_append, List.not_mem_nil, or_false] at hd
    rcases hd with rfl | hd | rfl
    · exact ⟨_, _, rfl⟩
    · exact bytes_int a d hd
    · exact ⟨_, _, rfl⟩)
  rwa [pc_len ha] at this
theorem bytes_same {a : List UInt8} {n : Nat} (ha : a.length = n) : eqCells (List.replicate n .ki) (ofBytes a) (ofBytes a) = some true := by
  have := ki_same (ofBytes a) (bytes_int a)
  rwa [ofBytes_length, ha] at this
theorem checks_law (h : Heap) (v n x y : Int) (a c : List UInt8) (ha : a.length = 16) (hc : c.length = 16) :
    FC Try.prog 5 [.agg (pc v a n), .agg (ofBytes c), .agg [.int .i64 x, .int .i64 y]] h fun d h' => d = .bool true ∧ h' = h := by
  have c1 : (ofBytes c).length = 16 := by rw [ofBytes_length, hc]
  have c2 : List.take 16 (ofBytes c) = ofBytes c := List.take_of_length_le (by omega)
  have z1 := zeros_len 16
  have m1 := makeA_length x c y
  have hl : (halfL v a n).length = 16 := by unfold halfL; split; exact ha; exact z1
  have hh : (halfH v a n).length = 16 := by unfold halfH; split; rw [setA_length, ha]; exact z1
  have ll := lastF_length v a n
  have er := pcheck_fc
  have er2 := rcheck_fc
  have el := plast_fc
  simp only [prefD_pc] at er er2 el
  have sm := pc_same (v := makeV x y) (n := makeN x y) m1
  have sl := pc_same (v := halfV v a n) (n := halfN v a n) hl
  have sh := pc_same (v := halfV v a n) (n := halfN v a n) hh
  have sz := bytes_same ll
  refine FC.goes cf5 ?_; simp only [c5]; simp only [List.length_cons, List.length_nil, Nat.reduceAdd, Nat.reduceSub, List.replicate_succ, List.replicate_zero, List.cons_append, List.nil_append]
  simp only [c5r0, c5r1, c5r2, c5r3, c5r4, ← pc_zero]
  simp (disch := first | omega | (simp only [List.length_append, List.length_cons, List.length_nil]; omega)) only [↓pc_one, ↓pc_len, c1, c2, go_sem, fill_c, ↓reduceIte, reduceCtorEq, Nat.reduceAdd, Nat.reduceSub, Nat.reducePow, Nat.reduceMul, Nat.reduceEqDiff, Nat.reduceLT, Nat.reduceLeDiff, Int.reduceToNat, Int.reduceLT, Int.reduceLE, Int.reduceEq, Int.reduceNeg, Int.reduceAdd, Int.reduceSub, Int.reduceMul]
  refine gfc_same (pmake_fc _ x y c hc) ?_
  simp (disch := first | omega | (simp only [List.length_append, List.length_cons, List.length_nil]; omega)) only [pc_one, pc_len, c1, c2, z1, pc_over, go_sem, fill_c, ↓reduceIte, reduceCtorEq, Nat.reduceAdd, Nat.reduceSub, Nat.reducePow, Nat.reduceMul, Nat.reduceEqDiff, Nat.reduceLT, Nat.reduceLeDiff, Int.reduceToNat, Int.reduceLT, Int.reduceLE, Int.reduceEq, Int.reduceNeg, Int.reduceAdd, Int.reduceSub, Int.reduceMul]
  refine gfc_same (rmake2_fc _ x y c hc) ?_
  simp (disch := first | omega | (simp only [List.length_append, List.length_cons, List.length_nil]; omega)) only [pc_one, pc_len, c1, c2, z1, pc_over, pc_take, go_sem, fill_c, ↓reduceIte, reduceCtorEq, Nat.reduceAdd, Nat.reduceSub, Nat.reducePow, Nat.reduceMul, Nat.reduceEqDiff, Nat.reduceLT, Nat.reduceLeDiff, Int.reduceToNat, Int.reduceLT, Int.reduceLE, Int.reduceEq, Int.reduceNeg, Int.reduceAdd, Int.reduceSub, Int.reduceMul]
  refine gfc_same (phalves_fc _ v n a ha) ?_
  simp (disch := first | omega | (simp only [List.length_append, List.length_cons, List.length_nil]; omega)) only [pc_one, pc_len, c1, c2, z1, pc_over, pc_take, go_sem, fill_c, ↓reduceIte, reduceCtorEq, Nat.reduceAdd, Nat.reduceSub, Nat.reducePow, Nat.reduceMul, Nat.reduceEqDiff, Nat.reduceLT, Nat.reduceLeDiff, Int.reduceToNat, Int.reduceLT, Int.reduceLE, Int.reduceEq, Int.reduceNeg, Int.reduceAdd, Int.reduceSub, Int.reduceMul]
  refine gfc_same (rhalves_fc _ v n a ha) ?_
  simp (disch := first | omega | (simp only [List.length_append, List.length_cons, List.length_nil]; omega)) only [pc_one, pc_len, c1, c2, z1, pc_over, pc_take, c5r0, c5r1, c5r2, c5r3, c5r4, c5r5, c5r6, go_sem, fill_c, ↓reduceIte, reduceCtorEq, Nat.reduceAdd, Nat.reduceSub, Nat.reducePow, Nat.reduceMul, Nat.reduceEqDiff, Nat.reduceLT, Nat.reduceLeDiff, Int.reduceToNat, Int.reduceLT, Int.reduceLE, Int.reduceEq, Int.reduceNeg, Int.reduceAdd, Int.reduceSub, Int.reduceMul]
  refine xfc_same (L07.live07 _) ?_
  simp (disch := first | omega | (simp only [List.length_append, List.length_cons, List.length_nil]; omega)) only [pc_len, pc_take, go_sem, fill_c, ↓reduceIte, reduceCtorEq, Nat.reduceAdd, Nat.reduceSub, Nat.reducePow, Nat.reduceMul, Nat.reduceEqDiff, Nat.reduceLT, Nat.reduceLeDiff, Int.reduceToNat, Int.reduceLT, Int.reduceLE, Int.reduceEq, Int.reduceNeg, Int.reduceAdd, Int.reduceSub, Int.reduceMul]
  refine xfc_same (er _ v n a ha) ?_
  simp (disch := first | omega | (simp only [List.length_append, List.length_cons, List.length_nil]; omega)) only [go_sem, fill_c, ↓reduceIte, reduceCtorEq, Nat.reduceAdd, Nat.reduceSub, Nat.reducePow, Nat.reduceMul, Nat.reduceEqDiff, Nat.reduceLT, Nat.reduceLeDiff, Int.reduceToNat, Int.reduceLT, Int.reduceLE, Int.reduceEq, Int.reduceNeg, Int.reduceAdd, Int.reduceSub, Int.reduceMul]
  refine xfc_same (er2 _ v n a ha) ?_
  simp (disch := first | omega | (simp only [List.length_append, List.length_cons, List.length_nil]; omega)) only [pc_len, pc_take, bool_same, sm, sl, sh, go_sem, fill_c, ↓reduceIte, reduceCtorEq, Nat.reduceAdd, Nat.reduceSub, Nat.reducePow, Nat.reduceMul, Nat.reduceEqDiff, Nat.reduceLT, Nat.reduceLeDiff, Int.reduceToNat, Int.reduceLT, Int.reduceLE, Int.reduceEq, Int.reduceNeg, Int.reduceAdd, Int.reduceSub, Int.reduceMul]
  refine xfc_same (el _ v n a ha) ?_
  simp (disch := first | omega | (simp only [List.length_append, List.length_cons, List.length_nil]; omega)) only [go_sem, fill_c, ↓reduceIte, reduceCtorEq, Nat.reduceAdd, Nat.reduceSub, Nat.reducePow, Nat.reduceMul, Nat.reduceEqDiff, Nat.reduceLT, Nat.reduceLeDiff, Int.reduceToNat, Int.reduceLT, Int.reduceLE, Int.reduceEq, Int.reduceNeg, Int.reduceAdd, Int.reduceSub, Int.reduceMul]
  refine gfc_same (rlast_fc _ v n a ha) ?_
  simp (disch := first | omega | (simp only [List.length_append, List.length_cons, List.length_nil]; omega)) only [sz, go_sem, fill_c, ↓reduceIte, reduceCtorEq, Nat.reduceAdd, Nat.reduceSub, Nat.reducePow, Nat.reduceMul, Nat.reduceEqDiff, Nat.reduceLT, Nat.reduceLeDiff, Int.reduceToNat, Int.reduceLT, Int.reduceLE, Int.reduceEq, Int.reduceNeg, Int.reduceAdd, Int.reduceSub, Int.reduceMul]
  exact FinOk.drop (.inl rfl) (by simp [underL, underD]) ⟨rfl, rfl⟩
theorem checks_row (h : Heap) (x0 : (Sh.pair (.int .i64) (.pair (.arr 16 (.int .u8)) (.pair (.int .i64) .unit))).T) (ok0 : (Sh.pair (.int .i64) (.pair (.arr 16 (.int .u8)) (.pair (.int .i64) .unit))).ok x0) (x1 : (Sh.arr 16 (.int .u8)).T) (ok1 : (Sh.arr 16 (.int .u8)).ok x1) (x2 : (Sh.arr 2 (.int .i64)).T) (ok2 : (Sh.arr 2 (.int .i64)).ok x2)
    (hv : (Sh.pair (.int .i64) (.pair (.arr 16 (.int .u8)) (.pair (.int .i64) .unit))).vol x0 + (Sh.arr 16 (.int .u8)).vol x1 + (Sh.arr 2 (.int .i64)).vol x2 ≤ 1048576)
    (D0 : D) (en0 : (Sh.pair (.int .i64) (.pair (.arr 16 (.int .u8)) (.pair (.int .i64) .unit))).EncV x0 D0) (D1 : D) (en1 : (Sh.arr 16 (.int .u8)).EncV x1 D1) (D2 : D) (en2 : (Sh.arr 2 (.int .i64)).EncV x2 D2) : FC Try.prog 5 [D0, D1, D2] h fun d h' => d = .bool true ∧ h' = h := by
  obtain ⟨v, a, n, ha, rfl, -⟩ := pc_open ok0 en0
  obtain ⟨c, hc, rfl⟩ := arr_u8 ok1 en1
  obtain ⟨cs, h1, rfl⟩ := en2
  obtain ⟨x, y, c1, c2, h2, h3, h4, rfl⟩ := encL_two ok2.1 h1
  simp only [Sh.Enc] at h3 h4
  subst h3; subst h4
  exact checks_law h v n x y a c ha hc
end Go.Proofs
