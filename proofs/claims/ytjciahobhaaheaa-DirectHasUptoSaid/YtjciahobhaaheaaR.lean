/-
  Own work. The walks of direct: Find, Most, Free; and of the document's Find, Free.
-/
import Derived.Test.YtjciahobhaaheaaQ
namespace Go.Proofs
open Go Go.Ytjciahobhaaheaa
set_option linter.unusedVariables false
set_option linter.unusedSimpArgs false
set_option maxRecDepth 10000

/-! ### (*weighbridge/direct.Table).Find, params 2 -/
def c13r0 : List AStm := [.op (some 4) none (.mv (.c .nils))]
def c13r1 : List AStm := [.op (some 6) none (.mv (.t 0)),
    .op (some 7) none (.isnil false 1 (.t 6)),
    .op (some 5) none (.mv (.t 7))]
def c13r2 : List AStm := [.op (some 4) none (.mv (.c .nils))]
def c13r3 : List AStm := [.op (some 9) none (.mv (.t 1)),
    .op (some 10) none (.bin .lss (.t 9) (.c (.int .i64 0))),
    .op (some 11) none (.mv (.t 10)),
    .op (some 12) (some (11, false)) (.mv (.t 1)),
    .op (some 13) (some (11, false)) (.mv (.t 0)),
    .op (some 14) (some (11, false)) (.nilchk (.t 13)),
    .op (some 15) (some (11, false)) (.faddr 0 (.t 14)),
    .op (some 16) (some (11, false)) (.load none (.t 15)),
    .op (some 17) (some (11, false)) (.bin .gtr (.t 12) (.t 16)),
    .op (some 18) none (.pick (.t 11) (.c (.bool true)) (.t 17)),
    .op (some 8) none (.mv (.t 18))]
def c13r4 : List AStm := [.op (some 19) none (.mv (.t 0)),
    .op (some 20) none (.nilchk (.t 19)),
    .op (some 21) none (.faddr 1 (.t 20)),
    .op (some 22) none (.load none (.t 21)),
    .call (some 23) none (.c (.fn (.func 21) [] [])) [(.t 22)],
    .op (some 4) none (.mv (.t 23))]
def c13r5 : List AStm := [.op (some 24) none (.mv (.t 0)),
    .op (some 25) none (.nilchk (.t 24)),
    .op (some 26) none (.faddr 2 (.t 25)),
    .op (some 27) none (.load none (.t 26)),
    .op (some 28) none (.mv (.t 0)),
    .op (some 29) none (.nilchk (.t 28)),
    .op (some 30) none (.faddr 3 (.t 29)),
    .op (some 31) none (.load none (.t 30)),
    .op (some 32) none (.mv (.t 1)),
    .op (some 33) none (.mapget .nils (.t 31) (.t 32))]
def c13r6 : List AStm := [.op (some 34) none (.bslice 1 [.nils, .nils] 2 [(0, 1, (.t 27)), (1, 1, (.t 33))]),
    .call (some 35) none (.c (.fn (.func 35) [] [])) [(.t 34)],
    .op (some 4) none (.mv (.t 35))]
def c13 : CF := ⟨.seq (.reg c13r0) (.seq (.block 0 (.seq (.reg c13r1) (.cond (.t 5) (.seq (.reg c13r2) (.ret)) (.seq (.reg c13r3) (.cond (.t 8) (.seq (.reg c13r4) (.ret)) (.skip)))))) (.seq (.dreg c13r5 c13r6) (.ret))), [.tmp 4], 36⟩
theorem cf13 : cfun Try.prog 13 = some c13 := by kernel_rfl

/-! ### (*weighbridge/direct.Table).Most, params 1 -/
def c15r0 : List AStm := [.op (some 2) none (.mv (.c (.int .i64 0)))]
def c15r1 : List AStm := [.op (some 3) none (.mv (.t 0)),
    .op (some 4) none (.isnil false 1 (.t 3))]
def c15r2 : List AStm := [.op (some 2) none (.mv (.c (.int .i64 0)))]
def c15r3 : List AStm := [.op (some 5) none (.mv (.t 0)),
    .op (some 6) none (.nilchk (.t 5)),
    .op (some 7) none (.faddr 0 (.t 6)),
    .op (some 8) none (.load none (.t 7)),
    .op (some 2) none (.mv (.t 8))]
def c15 : CF := ⟨.seq (.reg c15r0) (.seq (.seq (.reg c15r1) (.cond (.t 4) (.seq (.reg c15r2) (.ret)) (.skip))) (.seq (.reg c15r3) (.ret))), [.tmp 2], 9⟩
theorem cf15 : cfun Try.prog 15 = some c15 := by kernel_rfl

/-! ### (*weighbridge/direct.Table).Free, params 1 -/
def c16r0 : List AStm := [.op (some 2) none (.mv (.c (.int .i64 0)))]
def c16r1 : List AStm := [.op (some 3) none (.mv (.t 0)),
    .op (some 4) none (.isnil false 1 (.t 3))]
def c16r2 : List AStm := [.op (some 2) none (.mv (.c (.int .i64 0)))]
def c16r3 : List AStm := [.op (some 5) none (.mv (.t 0)),
    .op (some 6) none (.nilchk (.t 5)),
    .op (some 7) none (.faddr 0 (.t 6)),
    .op (some 8) none (.load none (.t 7)),
    .op (some 9) none (.bin .add (.t 8) (.c (.int .i64 1))),
    .op (some 10) none (.mv (.t 0)),
    .op (some 11) none (.nilchk (.t 10)),
    .op (some 12) none (.faddr 3 (.t 11)),
    .op (some 13) none (.load none (.t 12)),
    .op (some 14) none (.maplen (.t 13)),
    .op (some 15) none (.bin .sub (.t 9) (.t 14)),
    .op (some 2) none (.mv (.t 15))]
def c16r4 : List AStm := []
def c16 : CF := ⟨.seq (.reg c16r0) (.seq (.seq (.reg c16r1) (.cond (.t 4) (.seq (.reg c16r2) (.ret)) (.skip))) (.seq (.dreg c16r3 c16r4) (.ret))), [.tmp 2], 16⟩
theorem cf16 : cfun Try.prog 16 = some c16 := by kernel_rfl

/-! ### weighbridge/weighbridgeref21.Find, params 3 -/
def c14r0 : List AStm := [.op (some 6) none (.mv (.c .nils))]
def c14r1 : List AStm := [.op (some 7) none (.mv (.c .nils))]
def c14r2 : List AStm := [.op (some 8) none (.mv (.c (.int .i64 0)))]
def c14r3 : List AStm := [.op (some 9) none (.mv (.t 8)),
    .op (some 10) none (.mv (.t 0)),
    .op (some 11) none (.len false (.t 10)),
    .op (some 12) none (.bin .lss (.t 9) (.t 11))]
def c14r4 : List AStm := [.op (some 15) none (.mv (.t 2)),
    .op (some 16) none (.bin .geq (.t 15) (.c (.int .i64 0))),
    .op (some 17) none (.mv (.t 16)),
    .op (some 18) (some (17, true)) (.mv (.t 2)),
    .op (some 19) (some (17, true)) (.mv (.t 1)),
    .op (some 20) (some (17, true)) (.bin .leq (.t 18) (.t 19)),
    .op (some 21) none (.pick (.t 17) (.t 20) (.c (.bool false))),
    .op (some 22) none (.mv (.t 21)),
    .op (some 23) (some (22, true)) (.mv (.t 0)),
    .op (some 24) (some (22, true)) (.mv (.t 8)),
    .op (some 25) (some (22, true)) (.ixs 1 (.t 23) (.t 24)),
    .op (some 26) (some (22, true)) (.load none (.t 25)),
    .op (some 27) (some (22, true)) (.bin .eql (.t 26) (.c (.int .i64 (-1)))),
    .op (some 28) (some (22, true)) (.mv (.t 27)),
    .op (some 29) (some (28, false)) (.mv (.t 0)),
    .op (some 30) (some (28, false)) (.mv (.t 8)),
    .op (some 31) (some (28, false)) (.ixs 1 (.t 29) (.t 30)),
    .op (some 32) (some (28, false)) (.load none (.t 31)),
    .op (some 33) (some (28, false)) (.mv (.t 2)),
    .op (some 34) (some (28, false)) (.bin .eql (.t 32) (.t 33)),
    .op (some 35) (some (22, true)) (.pick (.t 28) (.c (.bool true)) (.t 34)),
    .op (some 36) none (.pick (.t 22) (.t 35) (.c (.bool false)))]
def c14r5 : List AStm := [.op (some 37) none (.mv (.t 7)),
    .op (some 38) none (.mv (.t 8)),
    .op (some 39) none (.bslice 1 [(.int .i64 0)] 1 [(0, 1, (.t 38))]),
    .op (some 40) none (.append false 1 8 (.t 37) (.t 39)),
    .op (some 7) none (.mv (.t 40))]
def c14r6 : List AStm := [.op (some 13) none (.mv (.t 8)),
    .op (some 14) none (.bin .add (.t 13) (.c (.int .i64 1))),
    .op (some 8) none (.mv (.t 14))]
def c14l7 : AC := .seq (.seq (.reg c14r3) (.cond (.t 12) (.skip) (.exit 0))) (.seq (.block 1 (.seq (.reg c14r4) (.cond (.t 36) (.reg c14r5) (.skip)))) (.reg c14r6))
def c14r8 : List AStm := [.op (some 41) none (.mv (.t 0)),
    .op (some 42) none (.len false (.t 41)),
    .op (some 43) none (.mv (.t 7)),
    .call (some 44) none (.c (.fn (.func 41) [] [])) [(.t 42), (.t 43)],
    .op (some 6) none (.mv (.t 44))]
def c14 : CF := ⟨.seq (.reg c14r0) (.seq (.reg c14r1) (.seq (.seq (.reg c14r2) (.block 0 (.loop c14l7))) (.seq (.reg c14r8) (.ret)))), [.tmp 6], 45⟩
theorem cf14 : cfun Try.prog 14 = some c14 := by kernel_rfl

/-! ### weighbridge/weighbridgeref21.Free, params 2 -/
def c17r0 : List AStm := [.op (some 4) none (.mv (.c (.int .i64 0)))]
def c17r1 : List AStm := [.op (some 5) none (.mv (.c (.int .i64 0)))]
def c17r2 : List AStm := [.op (some 6) none (.mv (.c (.int .i64 0)))]
def c17r3 : List AStm := [.op (some 9) none (.mv (.t 6)),
    .op (some 10) none (.mv (.t 1)),
    .op (some 11) none (.bin .leq (.t 9) (.t 10))]
def c17r4 : List AStm := [.op (some 7) none (.mv (.c (.bool true)))]
def c17r5 : List AStm := [.op (some 8) none (.mv (.c (.int .i64 0)))]
def c17r6 : List AStm := [.op (some 14) none (.mv (.t 8)),
    .op (some 15) none (.mv (.t 0)),
    .op (some 16) none (.len false (.t 15)),
    .op (some 17) none (.bin .lss (.t 14) (.t 16))]
def c17r7 : List AStm := [.op (some 20) none (.mv (.t 7)),
    .op (some 21) none (.mv (.t 20)),
    .op (some 22) (some (21, true)) (.mv (.t 0)),
    .op (some 23) (some (21, true)) (.mv (.t 8)),
    .op (some 24) (some (21, true)) (.ixs 1 (.t 22) (.t 23)),
    .op (some 25) (some (21, true)) (.load none (.t 24)),
    .op (some 26) (some (21, true)) (.mv (.t 6)),
    .op (some 27) (some (21, true)) (.bin .neq (.t 25) (.t 26)),
    .op (some 28) none (.pick (.t 21) (.t 27) (.c (.bool false))),
    .op (some 7) none (.mv (.t 28))]
def c17r8 : List AStm := [.op (some 18) none (.mv (.t 8)),
    .op (some 19) none (.bin .add (.t 18) (.c (.int .i64 1))),
    .op (some 8) none (.mv (.t 19))]
def c17l9 : AC := .seq (.seq (.reg c17r6) (.cond (.t 17) (.skip) (.exit 2))) (.seq (.block 3 (.reg c17r7)) (.reg c17r8))
def c17r10 : List AStm := [.op (some 29) none (.mv (.t 7))]
def c17r11 : List AStm := [.op (some 30) none (.mv (.t 5)),
    .op (some 31) none (.bin .add (.t 30) (.c (.int .i64 1))),
    .op (some 5) none (.mv (.t 31))]
def c17r12 : List AStm := [.op (some 12) none (.mv (.t 6)),
    .op (some 13) none (.bin .add (.t 12) (.c (.int .i64 1))),
    .op (some 6) none (.mv (.t 13))]
def c17l13 : AC := .seq (.seq (.reg c17r3) (.cond (.t 11) (.skip) (.exit 0))) (.seq (.block 1 (.seq (.reg c17r4) (.seq (.seq (.reg c17r5) (.block 2 (.loop c17l9))) (.seq (.reg c17r10) (.cond (.t 29) (.reg c17r11) (.skip)))))) (.reg c17r12))
def c17r14 : List AStm := [.op (some 32) none (.mv (.t 5)),
    .op (some 4) none (.mv (.t 32))]
def c17 : CF := ⟨.seq (.reg c17r0) (.seq (.reg c17r1) (.seq (.seq (.reg c17r2) (.block 0 (.loop c17l13))) (.seq (.reg c17r14) (.ret)))), [.tmp 4], 33⟩
theorem cf17 : cfun Try.prog 17 = some c17 := by kernel_rfl



def findP (most n : Int) (x : Int) : Bool := decide (0 ≤ n) && decide (n ≤ most) && (x == -1 || x == n)
def findR (l : List Int) (most n : Int) : List Nat := rowP l (findP most n) l.length
theorem findR_out {l : List Int} {most n : Int} (h : ¬ (0 ≤ n ∧ n ≤ most)) : findR l most n = List.replicate (qOf l) 0 := rowP_none fun i _ => by
  unfold findP
  by_cases h0 : 0 ≤ n
  · have : ¬ n ≤ most := fun h1 => h ⟨h0, h1⟩
    simp [this]
  · simp [h0]
theorem findR_in {l : List Int} {most n : Int} {B : List Nat} (h0 : 0 ≤ n) (h1 : n ≤ most) (hB : B = rowP l (fun x => x == n) l.length ∨ (B = [] ∧ ∀ i < l.length, ¬ l.getD i 0 = n)) : orR [rowP l (fun x => x == -1) l.length, B] = findR l most n := by
  have hlen : (orR [rowP l (fun x => x == -1) l.length, B]).length = qOf l := by
    rw [orR, List.foldl_cons, List.foldl_cons, List.foldl_nil, orP_length, orP_length, rowP_length]
    rcases hB with rfl | ⟨rfl, _⟩
    · rw [rowP_length]; simp
    · simp
  have hwB : Words B := by
    rcases hB with rfl | ⟨rfl, _⟩
    · exact rowP_words _ _ _
    · simp [Words]
  refine row_ext (by rw [hlen]; exact (rowP_length _ _ _).symm) (orR_words (by simpa using ⟨rowP_words _ _ _, hwB⟩)) (rowP_words _ _ _) fun j hj => ?_
  rw [orR_has, findR, rowP_has (Nat.le_refl _)]
  simp only [List.any_cons, List.any_nil, Bool.or_false, rowP_has (Nat.le_refl _)]
  have hBj : hasB B j = decide (j < l.length ∧ (l.getD j 0 == n) = true) := by
    rcases hB with rfl | ⟨rfl, hn⟩
    · rw [rowP_has (Nat.le_refl _)]
    · rw [hasB_out (by simp)]
      symm
      rw [decide_eq_false_iff_not]
      rintro ⟨h2, h3⟩
      exact hn j h2 (by simpa using h3)
  rw [hBj]
  simp only [findP, h0, h1, decide_true, Bool.true_and]
  by_cases hjl : j < l.length
  · simp [hjl]
  · simp [hjl]
theorem in_ref' {h : Heap} {T : Nat} {cs : List D} (hb : h[T]? = some (.box cs)) : isNil h (.ref T 0) = some false := by
  simp [isNil, fieldAddr, hb]

theorem dfindNil_fc (h : Heap) (n : Int) : FC Try.prog 13 [.nilp, .int .i64 n] h fun d h' => d = .nils ∧ h' = h := by
  refine FC.goes cf13 ?_; simp only [c13]; simp only [List.length_cons, List.length_nil, Nat.reduceAdd, Nat.reduceSub, List.replicate_succ, List.replicate_zero, List.cons_append, List.nil_append]
  simp (disch := first | omega | (simp only [List.length_append, List.length_cons, List.length_nil]; omega)) only [c13r0, c13r1, c13r2, c13r3, c13r4, c13r5, c13r6, go_sem, ↓reduceIte, reduceCtorEq, Nat.reduceAdd, Nat.reduceSub, Nat.reducePow, Nat.reduceMul, Nat.reduceEqDiff, Nat.reduceLT, Nat.reduceLeDiff, Int.reduceToNat, Int.reduceLT, Int.reduceLE, Int.reduceEq, Int.reduceNeg, Int.reduceAdd, Int.reduceSub, Int.reduceMul]
  exact FinOk.all ⟨rfl, rfl⟩
theorem mostNil_fc (h : Heap) : FC Try.prog 15 [.nilp] h fun d h' => d = .int .i64 0 ∧ h' = h := by
  refine FC.goes cf15 ?_; simp only [c15]; simp only [List.length_cons, List.length_nil, Nat.reduceAdd, Nat.reduceSub, List.replicate_succ, List.replicate_zero, List.cons_append, List.nil_append]
  simp (disch := first | omega | (simp only [List.length_append, List.length_cons, List.length_nil]; omega)) only [c15r0, c15r1, c15r2, c15r3, go_sem, ↓reduceIte, reduceCtorEq, Nat.reduceAdd, Nat.reduceSub, Nat.reducePow, Nat.reduceMul, Nat.reduceEqDiff, Nat.reduceLT, Nat.reduceLeDiff, Int.reduceToNat, Int.reduceLT, Int.reduceLE, Int.reduceEq, Int.reduceNeg, Int.reduceAdd, Int.reduceSub, Int.reduceMul]
  exact FinOk.all ⟨rfl, rfl⟩
theorem freeNil_fc (h : Heap) : FC Try.prog 16 [.nilp] h fun d h' => d = .int .i64 0 ∧ h' = h := by
  refine FC.goes cf16 ?_; simp only [c16]; simp only [List.length_cons, List.length_nil, Nat.reduceAdd, Nat.reduceSub, List.replicate_succ, List.replicate_zero, List.cons_append, List.nil_append]
  simp (disch := first | omega | (simp only [List.length_append, List.length_cons, List.length_nil]; omega)) only [c16r0, c16r1, c16r2, c16r3, c16r4, go_sem, ↓reduceIte, reduceCtorEq, Nat.reduceAdd, Nat.reduceSub, Nat.reducePow, Nat.reduceMul, Nat.reduceEqDiff, Nat.reduceLT, Nat.reduceLeDiff, Int.reduceToNat, Int.reduceLT, Int.reduceLE, Int.reduceEq, Int.reduceNeg, Int.reduceAdd, Int.reduceSub, Int.reduceMul]
  exact FinOk.all ⟨rfl, rfl⟩
theorem most_fc (h : Heap) (T : Nat) (l : List Int) (most : Int) (tab : TabOk h T l most) : FC Try.prog 15 [.ref T 0] h fun d h' => d = .int .i64 most ∧ h' = h := by
  obtain ⟨M, ra, ks, tab, hmem⟩ := tab
  have bT := tab.box
  have bN := in_ref' bT
  refine FC.goes cf15 ?_; simp only [c15]; simp only [List.length_cons, List.length_nil, Nat.reduceAdd, Nat.reduceSub, List.replicate_succ, List.replicate_zero, List.cons_append, List.nil_append]
  simp (disch := first | omega | (simp only [List.length_append, List.length_cons, List.length_nil]; omega)) only [c15r0, c15r1, c15r2, c15r3, bT, bN, go_sem, ↓reduceIte, reduceCtorEq, Nat.reduceAdd, Nat.reduceSub, Nat.reducePow, Nat.reduceMul, Nat.reduceEqDiff, Nat.reduceLT, Nat.reduceLeDiff, Int.reduceToNat, Int.reduceLT, Int.reduceLE, Int.reduceEq, Int.reduceNeg, Int.reduceAdd, Int.reduceSub, Int.reduceMul]
  exact FinOk.all ⟨rfl, rfl⟩
theorem dfind_fc (h : Heap) (T : Nat) (l : List Int) (most : Int) (tab : TabOk h T l most) (hlen : l.length ≤ 256) (hm : most ≤ 65535) (n : Int) (hn0 : -9223372036854775808 ≤ n) (hn1 : n < 9223372036854775808) : FC Try.prog 13 [.ref T 0, .int .i64 n] h (Made h (findR l most n)) := by
  obtain ⟨M, ra, ks, tab, hmem⟩ := tab
  have bT := tab.box
  have bN := in_ref' bT
  have hz : newR (l.length : Int) = List.replicate (qOf l) 0 := by
    unfold newR
    rw [if_neg (by omega)]; rfl
  refine FC.goes cf13 ?_; simp only [c13]; simp only [List.length_cons, List.length_nil, Nat.reduceAdd, Nat.reduceSub, List.replicate_succ, List.replicate_zero, List.cons_append, List.nil_append]
  by_cases h0 : n < 0
  · simp (disch := first | omega | (simp only [List.length_append, List.length_cons, List.length_nil]; omega)) only [c13r0, c13r1, c13r2, c13r3, c13r4, c13r5, c13r6, bT, bN, h0, go_sem, ↓reduceIte, reduceCtorEq, Nat.reduceAdd, Nat.reduceSub, Nat.reducePow, Nat.reduceMul, Nat.reduceEqDiff, Nat.reduceLT, Nat.reduceLeDiff, Int.reduceToNat, Int.reduceLT, Int.reduceLE, Int.reduceEq, Int.reduceNeg, Int.reduceAdd, Int.reduceSub, Int.reduceMul]
    refine gfc_of (new_md _ (l.length : Int) (by omega) (by omega)) ?_
    rintro d h' hmd
    simp (disch := first | omega | (simp only [List.length_append, List.length_cons, List.length_nil]; omega)) only [go_sem, ↓reduceIte, reduceCtorEq, Nat.reduceAdd, Nat.reduceSub, Nat.reducePow, Nat.reduceMul, Nat.reduceEqDiff, Nat.reduceLT, Nat.reduceLeDiff, Int.reduceToNat, Int.reduceLT, Int.reduceLE, Int.reduceEq, Int.reduceNeg, Int.reduceAdd, Int.reduceSub, Int.reduceMul]
    rw [findR_out (by omega), ← hz]
    exact FinOk.all hmd
  · by_cases h1 : most < n
    · simp (disch := first | omega | (simp only [List.length_append, List.length_cons, List.length_nil]; omega)) only [c13r0, c13r1, c13r2, c13r3, c13r4, c13r5, c13r6, bT, bN, h0, h1, go_sem, ↓reduceIte, reduceCtorEq, Nat.reduceAdd, Nat.reduceSub, Nat.reducePow, Nat.reduceMul, Nat.reduceEqDiff, Nat.reduceLT, Nat.reduceLeDiff, Int.reduceToNat, Int.reduceLT, Int.reduceLE, Int.reduceEq, Int.reduceNeg, Int.reduceAdd, Int.reduceSub, Int.reduceMul]
      refine gfc_of (new_md _ (l.length : Int) (by omega) (by omega)) ?_
      rintro d h' hmd
      simp (disch := first | omega | (simp only [List.length_append, List.length_cons, List.length_nil]; omega)) only [go_sem, ↓reduceIte, reduceCtorEq, Nat.reduceAdd, Nat.reduceSub, Nat.reducePow, Nat.reduceMul, Nat.reduceEqDiff, Nat.reduceLT, Nat.reduceLeDiff, Int.reduceToNat, Int.reduceLT, Int.reduceLE, Int.reduceEq, Int.reduceNeg, Int.reduceAdd, Int.reduceSub, Int.reduceMul]
      rw [findR_out (by omega), ← hz]
      exact FinOk.all hmd
    · obtain ⟨k, rfl⟩ := Int.eq_ofNat_of_zero_le (by omega : 0 ≤ n)
      have me : mapEs h (.mref M) = some (mapOf ks (qOf l)) := by simp [mapEs, tab.map]
      have sa : RowOf h (.own ra (qOf l)) (rowP l (fun x => x == -1) l.length) := by
        unfold RowOf
        rw [rowP_length]
        exact own_of tab.any (by rw [u64s_length, rowP_length]; omega)
      have hql : qOf l ≤ 5 := by unfold qOf; omega
      by_cases hnk : k ∈ ks.map (·.1)
      · obtain ⟨⟨n', r⟩, hm2, hnn⟩ := List.mem_map.1 hnk
        simp only at hnn
        subst hnn
        have hr := tab.own _ hm2
        simp only at hr
        obtain ⟨jj, hf⟩ := find_yes n' r (qOf l) ks 0 tab.keys hm2
        have so : RowOf h (.own r (qOf l)) (rowP l (fun x => x == (n' : Int)) l.length) := by
          unfold RowOf
          rw [rowP_length]
          exact own_of hr (by rw [u64s_length, rowP_length]; omega)
        simp (disch := first | omega | (simp only [List.length_append, List.length_cons, List.length_nil]; omega)) only [c13r0, c13r1, c13r2, c13r3, c13r4, c13r5, c13r6, bT, bN, h0, h1, me, hf, go_sem, ↓reduceIte, reduceCtorEq, Nat.reduceAdd, Nat.reduceSub, Nat.reducePow, Nat.reduceMul, Nat.reduceEqDiff, Nat.reduceLT, Nat.reduceLeDiff, Int.reduceToNat, Int.reduceLT, Int.reduceLE, Int.reduceEq, Int.reduceNeg, Int.reduceAdd, Int.reduceSub, Int.reduceMul]
        refine gfc_of (or_md _ _ _ (rows2 sa so) (by simp) (by simp [rowP_length]; omega) (by simpa using ⟨rowP_words _ _ _, rowP_words _ _ _⟩)) ?_
        rintro d h' ⟨E, s⟩
        rw [findR_in (most := most) (by omega) (by omega) (.inl rfl)] at s
        simp (disch := first | omega | (simp only [List.length_append, List.length_cons, List.length_nil]; omega)) only [go_sem, ↓reduceIte, reduceCtorEq, Nat.reduceAdd, Nat.reduceSub, Nat.reducePow, Nat.reduceMul, Nat.reduceEqDiff, Nat.reduceLT, Nat.reduceLeDiff, Int.reduceToNat, Int.reduceLT, Int.reduceLE, Int.reduceEq, Int.reduceNeg, Int.reduceAdd, Int.reduceSub, Int.reduceMul]
        exact FinOk.all ⟨(Ext.app (Ext.refl _) _).trans E, s⟩
      · have hf := find_no k (qOf l) ks 0 hnk
        have so : RowOf h .nils [] := nils_of _ _
        simp (disch := first | omega | (simp only [List.length_append, List.length_cons, List.length_nil]; omega)) only [c13r0, c13r1, c13r2, c13r3, c13r4, c13r5, c13r6, bT, bN, h0, h1, me, hf, go_sem, ↓reduceIte, reduceCtorEq, Nat.reduceAdd, Nat.reduceSub, Nat.reducePow, Nat.reduceMul, Nat.reduceEqDiff, Nat.reduceLT, Nat.reduceLeDiff, Int.reduceToNat, Int.reduceLT, Int.reduceLE, Int.reduceEq, Int.reduceNeg, Int.reduceAdd, Int.reduceSub, Int.reduceMul]
        refine gfc_of (or_md _ _ _ (rows2 sa so) (by simp) (by simp [rowP_length]; omega) (by simpa [Words] using rowP_words _ _ _)) ?_
        rintro d h' ⟨E, s⟩
        rw [findR_in (most := most) (by omega) (by omega) (.inr ⟨rfl, fun i hi he => hnk ((hmem k).2 ⟨i, hi, he⟩)⟩)] at s
        simp (disch := first | omega | (simp only [List.length_append, List.length_cons, List.length_nil]; omega)) only [go_sem, ↓reduceIte, reduceCtorEq, Nat.reduceAdd, Nat.reduceSub, Nat.reducePow, Nat.reduceMul, Nat.reduceEqDiff, Nat.reduceLT, Nat.reduceLeDiff, Int.reduceToNat, Int.reduceLT, Int.reduceLE, Int.reduceEq, Int.reduceNeg, Int.reduceAdd, Int.reduceSub, Int.reduceMul]
        exact FinOk.all ⟨(Ext.app (Ext.refl _) _).trans E, s⟩

/-! ### How many are free -/
def freeB (l : List Int) (k : Nat) : Bool := !(l.any fun x => x == (k : Int))
def freeTo (l : List Int) (N : Nat) : Nat := ((List.range N).filter (freeB l)).length
theorem freeTo_succ (l : List Int) (N : Nat) : freeTo l (N + 1) = freeTo l N + if freeB l N then 1 else 0 := by
  unfold freeTo
  rw [List.range_succ, List.filter_append, List.length_append]
  congr 1
  cases h : freeB l N <;> simp [h]
theorem filter_split {α : Type} (p : α → Bool) : ∀ l : List α, (l.filter p).length + (l.filter fun x => !p x).length = l.length
  | [] => rfl
  | x :: l => by
    have := filter_split p l
    simp only [List.filter_cons]
    cases h : p x <;> simp <;> omega
theorem filter_lt (N : Nat) : ∀ ks : List Nat, ks.Nodup → (ks.filter fun x => decide (x < N + 1)).length = (ks.filter fun x => decide (x < N)).length + if N ∈ ks then 1 else 0
  | [], _ => by simp
  | k :: ks, hn => by
    rw [List.nodup_cons] at hn
    have ih := filter_lt N ks hn.2
    simp only [List.filter_cons, List.mem_cons]
    rcases Nat.lt_trichotomy k N with h | h | h
    · have h1 : k < N + 1 := by omega
      have h2 : ¬ N = k := by omega
      simp only [h, h1, h2, decide_true, if_true, List.length_cons, false_or]
      omega
    · subst h
      have h1 : ¬ k < k := by omega
      have h2 : k < k + 1 := by omega
      rw [if_neg hn.1] at ih
      simp only [h1, h2, decide_true, decide_false, if_true, List.length_cons, true_or]
      simp only [Bool.false_eq_true, if_false]
      omega
    · have h1 : ¬ k < N + 1 := by omega
      have h2 : ¬ k < N := by omega
      have h3 : ¬ N = k := by omega
      simp only [h1, h2, h3, decide_false, false_or]
      simp only [Bool.false_eq_true, if_false]
      exact ih
theorem range_in (ks : List Nat) (hn : ks.Nodup) : ∀ N, ((List.range N).filter fun x => decide (x ∈ ks)).length = (ks.filter fun x => decide (x < N)).length
  | 0 => by
    have : (ks.filter fun x => decide (x < 0)) = [] := List.filter_eq_nil_iff.2 (by simp)
    rw [this]; rfl
  | N + 1 => by
    rw [List.range_succ, List.filter_append, List.length_append, range_in ks hn N, filter_lt N ks hn]
    congr 1
    by_cases h : N ∈ ks <;> simp [h]
theorem free_count {l : List Int} {ks : List Nat} (hn : ks.Nodup) {N : Nat} (hlt : ∀ k ∈ ks, k < N) (hm : ∀ k : Nat, k ∈ ks ↔ ∃ i, i < l.length ∧ l.getD i 0 = (k : Int)) : freeTo l N + ks.length = N := by
  have h1 := range_in ks hn N
  have h2 : (ks.filter fun x => decide (x < N)) = ks := List.filter_eq_self.2 fun k hk => by simpa using hlt k hk
  have h3 : ((List.range N).filter fun x => !decide (x ∈ ks)) = (List.range N).filter (freeB l) := by
    apply List.filter_congr
    intro k _
    unfold freeB
    congr 1
    rw [Bool.eq_iff_iff, decide_eq_true_iff, hm k, List.any_eq_true]
    constructor
    · rintro ⟨i, hi, he⟩
      refine ⟨l.getD i 0, ?_, by simpa using he⟩
      rw [List.getD_eq_getElem?_getD, List.getElem?_eq_getElem hi]; exact List.getElem_mem hi
    · rintro ⟨x, hx, he⟩
      obtain ⟨i, hi, rfl⟩ := List.getElem_of_mem hx
      exact ⟨i, hi, by rw [List.getD_eq_getElem?_getD, List.getElem?_eq_getElem hi]; simpa using he⟩
  have h4 := filter_split (fun x => decide (x ∈ ks)) (List.range N)
  rw [h1, h2, h3, List.length_range] at h4
  unfold freeTo
  omega

theorem free_fc (h : Heap) (T : Nat) (l : List Int) (most : Int) (tab : TabOk h T l most) (h0 : 0 ≤ most) (hm : most ≤ 65535) (hlen : l.length ≤ 256) (hin : ∀ j < l.length, ¬ (l.getD j 0 < -1 ∨ most < l.getD j 0)) :
    FC Try.prog 16 [.ref T 0] h fun d h' => d = .int .i64 ((freeTo l (most.toNat + 1) : Nat) : Int) ∧ h' = h := by
  obtain ⟨M, ra, ks, tab, hmem⟩ := tab
  have bT := tab.box
  have bN := in_ref' bT
  obtain ⟨k, rfl⟩ := Int.eq_ofNat_of_zero_le h0
  have me : mapEs h (.mref M) = some (mapOf ks (qOf l)) := by simp [mapEs, tab.map]
  have hcnt := free_count (l := l) (ks := ks.map (·.1)) tab.keys (N := k + 1) (fun n hn => by
    obtain ⟨i, h1, h2⟩ := (hmem n).1 hn
    have := hin i h1
    omega) hmem
  rw [List.length_map] at hcnt
  have hml : (mapOf ks (qOf l)).length = ks.length := by simp [mapOf]
  have e2 : ((k : Int)).toNat = k := rfl
  rw [e2]
  have e1 : IntKind.i64.wrap ((k : Int) + 1) = ((k + 1 : Nat) : Int) := by rw [w_i64 (by omega) (by omega)]; omega
  have e3 : IntKind.i64.wrap (((k + 1 : Nat) : Int) - (ks.length : Int)) = ((freeTo l (k + 1) : Nat) : Int) := by rw [w_i64 (by omega) (by omega)]; omega
  refine FC.goes cf16 ?_; simp only [c16]; simp only [List.length_cons, List.length_nil, Nat.reduceAdd, Nat.reduceSub, List.replicate_succ, List.replicate_zero, List.cons_append, List.nil_append]
  simp (disch := first | omega | (simp only [List.length_append, List.length_cons, List.length_nil]; omega)) only [c16r0, c16r1, c16r2, c16r3, c16r4, bT, bN, me, hml, e1, e3, go_sem, ↓reduceIte, reduceCtorEq, Nat.reduceAdd, Nat.reduceSub, Nat.reducePow, Nat.reduceMul, Nat.reduceEqDiff, Nat.reduceLT, Nat.reduceLeDiff, Int.reduceToNat, Int.reduceLT, Int.reduceLE, Int.reduceEq, Int.reduceNeg, Int.reduceAdd, Int.reduceSub, Int.reduceMul]
  exact FinOk.all ⟨rfl, rfl⟩

/-! ### The document's -/
theorem findRef_fc (h : Heap) (lD : D) (l : List Int) (s : SlOf h 1 lD (ints l) l.length) (hlen : l.length ≤ 256) (most n : Int) :
    FC Try.prog 14 [lD, .int .i64 most, .int .i64 n] h (Made h (findR l most n)) := by
  refine FC.goes cf14 ?_; simp only [c14]; simp only [List.length_cons, List.length_nil, Nat.reduceAdd, Nat.reduceSub, List.replicate_succ, List.replicate_zero, List.cons_append, List.nil_append]
  simp (disch := first | omega | (simp only [List.length_append, List.length_cons, List.length_nil]; omega)) only [c14r0, c14r1, c14r2, c14r3, c14r4, c14r5, c14r6, c14l7, c14r8, go_sem, ↓reduceIte, reduceCtorEq, Nat.reduceAdd, Nat.reduceSub, Nat.reducePow, Nat.reduceMul, Nat.reduceEqDiff, Nat.reduceLT, Nat.reduceLeDiff, Int.reduceToNat, Int.reduceLT, Int.reduceLE, Int.reduceEq, Int.reduceNeg, Int.reduceAdd, Int.reduceSub, Int.reduceMul]
  refine loop_to l.length (fun k st => ∃ (d : D) (H : Heap), AppSt h (i64s (idxs l (findP most n) k)) (idxs l (findP most n) k).length d H ∧ ∃ (j : Nat → D), st = ⟨(lD :: .int .i64 most :: .int .i64 n :: j 3 :: j 4 :: j 5 :: j 6 :: d :: .int .i64 (k : Int) :: j 9 :: j 10 :: j 11 :: j 12 :: j 13 :: j 14 :: j 15 :: j 16 :: j 17 :: j 18 :: j 19 :: j 20 :: j 21 :: j 22 :: j 23 :: j 24 :: j 25 :: j 26 :: j 27 :: j 28 :: j 29 :: j 30 :: j 31 :: j 32 :: j 33 :: j 34 :: j 35 :: j 36 :: j 37 :: j 38 :: j 39 :: j 40 :: j 41 :: j 42 :: j 43 :: j 44 :: []), h ++ H⟩) ⟨.nils, [], .inl ⟨rfl, rfl, rfl, rfl⟩, by rw [List.append_nil]; exact junk rfl⟩ ?_
  rintro k st hk ⟨d, H, ha, j, rfl⟩
  have s' := s.low H
  by_cases hkn : k < l.length
  · have hkn' : (k : Int) < l.length := by omega
    obtain ⟨p, cs, e1, e2, e3⟩ := s'.elem (k := .i64) (i := (k : Int)) (by omega) (by omega)
    have e4 := e3 0 (by omega)
    rw [show ((k : Int).toNat * 1 + 0) = k by omega, ints_get hkn] at e4
    have e5 : IntKind.i64.wrap ((k : Int) + 1) = ((k + 1 : Nat) : Int) := by rw [w_i64 (by omega) (by omega)]; omega
    have hsu := idxs_succ l (findP most n) k
    have hle := idxs_le l (findP most n) k
    have no : findP most n (l.getD k 0) = false → idxs l (findP most n) (k + 1) = idxs l (findP most n) k := fun h => by
      rw [hsu, h]; simp
    obtain ⟨H', q1, q2⟩ := ha.app (.int .i64 (k : Int)) (by omega) 8 (by omega)
    have yes : findP most n (l.getD k 0) = true → AppSt h (i64s (idxs l (findP most n) (k + 1))) (idxs l (findP most n) (k + 1)).length (.own (h.length + 1) ((idxs l (findP most n) k).length + 1)) H' := fun h => by
      rw [h, if_pos rfl] at hsu
      rw [← i64s_snoc, ← hsu] at q2
      have hl2 : (idxs l (findP most n) k).length + 1 = (idxs l (findP most n) (k + 1)).length := by rw [hsu, List.length_append]; rfl
      rw [hl2] at q2 ⊢
      exact q2
    generalize l.getD k 0 = v at *
    by_cases h0 : 0 ≤ n
    · by_cases h1 : n ≤ most
      · by_cases hm1 : v = -1
        · have hP : findP most n (v) = true := by simp [findP, h0, h1, hm1]
          simp (disch := first | omega | (simp only [List.length_append, List.length_cons, List.length_nil]; omega)) only [c14r0, c14r1, c14r2, c14r3, c14r4, c14r5, c14r6, c14l7, c14r8, s'.lend, s'.sort, hkn', h0, h1, e1, e2, e4, hm1, List.append_assoc, q1, e5, go_sem, ↓reduceIte, reduceCtorEq, Nat.reduceAdd, Nat.reduceSub, Nat.reducePow, Nat.reduceMul, Nat.reduceEqDiff, Nat.reduceLT, Nat.reduceLeDiff, Int.reduceToNat, Int.reduceLT, Int.reduceLE, Int.reduceEq, Int.reduceNeg, Int.reduceAdd, Int.reduceSub, Int.reduceMul]
          exact ⟨hkn, _, H', yes hP, junk rfl⟩
        · by_cases hmn : v = n
          · have hP : findP most n (v) = true := by simp [findP, h0, h1, hmn]
            simp (disch := first | omega | (simp only [List.length_append, List.length_cons, List.length_nil]; omega)) only [c14r0, c14r1, c14r2, c14r3, c14r4, c14r5, c14r6, c14l7, c14r8, s'.lend, s'.sort, hkn', h0, h1, e1, e2, e4, hm1, List.append_assoc, q1, e5, hmn, go_sem, ↓reduceIte, reduceCtorEq, Nat.reduceAdd, Nat.reduceSub, Nat.reducePow, Nat.reduceMul, Nat.reduceEqDiff, Nat.reduceLT, Nat.reduceLeDiff, Int.reduceToNat, Int.reduceLT, Int.reduceLE, Int.reduceEq, Int.reduceNeg, Int.reduceAdd, Int.reduceSub, Int.reduceMul]
            first
              | exact ⟨hkn, _, H', yes hP, junk rfl⟩
              | (subst hmn
                 simp (disch := first | omega | (simp only [List.length_append, List.length_cons, List.length_nil]; omega)) only [c14r0, c14r1, c14r2, c14r3, c14r4, c14r5, c14r6, c14l7, c14r8, s'.lend, s'.sort, hkn', h0, h1, e1, e2, e4, hm1, List.append_assoc, q1, e5, go_sem, ↓reduceIte, reduceCtorEq, Nat.reduceAdd, Nat.reduceSub, Nat.reducePow, Nat.reduceMul, Nat.reduceEqDiff, Nat.reduceLT, Nat.reduceLeDiff, Int.reduceToNat, Int.reduceLT, Int.reduceLE, Int.reduceEq, Int.reduceNeg, Int.reduceAdd, Int.reduceSub, Int.reduceMul]
                 exact ⟨hkn, _, H', yes hP, junk rfl⟩)
          · have hP : findP most n (v) = false := by simp [findP, h0, h1, hm1, hmn]
            simp (disch := first | omega | (simp only [List.length_append, List.length_cons, List.length_nil]; omega)) only [c14r0, c14r1, c14r2, c14r3, c14r4, c14r5, c14r6, c14l7, c14r8, s'.lend, s'.sort, hkn', h0, h1, e1, e2, e4, hm1, hmn, e5, go_sem, ↓reduceIte, reduceCtorEq, Nat.reduceAdd, Nat.reduceSub, Nat.reducePow, Nat.reduceMul, Nat.reduceEqDiff, Nat.reduceLT, Nat.reduceLeDiff, Int.reduceToNat, Int.reduceLT, Int.reduceLE, Int.reduceEq, Int.reduceNeg, Int.reduceAdd, Int.reduceSub, Int.reduceMul]
            refine ⟨hkn, d, H, ?_, junk rfl⟩
            rw [no hP]; exact ha
      · have hP : findP most n (v) = false := by simp [findP, h1]
        simp (disch := first | omega | (simp only [List.length_append, List.length_cons, List.length_nil]; omega)) only [c14r0, c14r1, c14r2, c14r3, c14r4, c14r5, c14r6, c14l7, c14r8, s'.lend, s'.sort, hkn', h0, h1, e5, go_sem, ↓reduceIte, reduceCtorEq, Nat.reduceAdd, Nat.reduceSub, Nat.reducePow, Nat.reduceMul, Nat.reduceEqDiff, Nat.reduceLT, Nat.reduceLeDiff, Int.reduceToNat, Int.reduceLT, Int.reduceLE, Int.reduceEq, Int.reduceNeg, Int.reduceAdd, Int.reduceSub, Int.reduceMul]
        refine ⟨hkn, d, H, ?_, junk rfl⟩
        rw [no hP]; exact ha
    · have hP : findP most n (v) = false := by simp [findP, h0]
      simp (disch := first | omega | (simp only [List.length_append, List.length_cons, List.length_nil]; omega)) only [c14r0, c14r1, c14r2, c14r3, c14r4, c14r5, c14r6, c14l7, c14r8, s'.lend, s'.sort, hkn', h0, e5, go_sem, ↓reduceIte, reduceCtorEq, Nat.reduceAdd, Nat.reduceSub, Nat.reducePow, Nat.reduceMul, Nat.reduceEqDiff, Nat.reduceLT, Nat.reduceLeDiff, Int.reduceToNat, Int.reduceLT, Int.reduceLE, Int.reduceEq, Int.reduceNeg, Int.reduceAdd, Int.reduceSub, Int.reduceMul]
      refine ⟨hkn, d, H, ?_, junk rfl⟩
      rw [no hP]; exact ha
  · have hkn' : ¬ (k : Int) < l.length := by omega
    have : k = l.length := by omega
    subst this
    have hle := idxs_le l (findP most n) l.length
    simp (disch := first | omega | (simp only [List.length_append, List.length_cons, List.length_nil]; omega)) only [c14r0, c14r1, c14r2, c14r3, c14r4, c14r5, c14r6, c14l7, c14r8, s'.lend, s'.sort, hkn', go_sem, ↓reduceIte, reduceCtorEq, Nat.reduceAdd, Nat.reduceSub, Nat.reducePow, Nat.reduceMul, Nat.reduceEqDiff, Nat.reduceLT, Nat.reduceLeDiff, Int.reduceToNat, Int.reduceLT, Int.reduceLE, Int.reduceEq, Int.reduceNeg, Int.reduceAdd, Int.reduceSub, Int.reduceMul]
    refine gfc_of (of_fc _ d l.length (idxs l (findP most n) l.length) (ha.sl (i64s_length _)) (by omega) (by omega) (fun x hx => by have := (idxs_mem.1 hx).1; omega)) ?_
    rintro r h2 ⟨E, s2⟩
    simp (disch := first | omega | (simp only [List.length_append, List.length_cons, List.length_nil]; omega)) only [go_sem, ↓reduceIte, reduceCtorEq, Nat.reduceAdd, Nat.reduceSub, Nat.reducePow, Nat.reduceMul, Nat.reduceEqDiff, Nat.reduceLT, Nat.reduceLeDiff, Int.reduceToNat, Int.reduceLT, Int.reduceLE, Int.reduceEq, Int.reduceNeg, Int.reduceAdd, Int.reduceSub, Int.reduceMul]
    exact FinOk.all ⟨(Ext.app (Ext.refl _) _).trans E, s2⟩

theorem freeRef_fc (h : Heap) (lD : D) (l : List Int) (s : SlOf h 1 lD (ints l) l.length) (hlen : l.length ≤ 256) (most : Int) (h0 : 0 ≤ most) (hm : most ≤ 65535) :
    FC Try.prog 17 [lD, .int .i64 most] h fun d h' => d = .int .i64 ((freeTo l (most.toNat + 1) : Nat) : Int) ∧ h' = h := by
  obtain ⟨N, rfl⟩ := Int.eq_ofNat_of_zero_le h0
  have e2 : ((N : Int)).toNat = N := rfl
  rw [e2]
  have hfl : ∀ k, freeTo l k ≤ k := fun k => by
    have := List.length_filter_le (freeB l) (List.range k)
    simpa [freeTo] using this
  refine FC.goes cf17 ?_; simp only [c17]; simp only [List.length_cons, List.length_nil, Nat.reduceAdd, Nat.reduceSub, List.replicate_succ, List.replicate_zero, List.cons_append, List.nil_append]
  simp (disch := first | omega | (simp only [List.length_append, List.length_cons, List.length_nil]; omega)) only [c17r0, c17r1, c17r2, c17r3, c17r4, c17r5, c17r6, c17r7, c17r8, c17l9, c17r10, c17r11, c17r12, c17l13, c17r14, go_sem, ↓reduceIte, reduceCtorEq, Nat.reduceAdd, Nat.reduceSub, Nat.reducePow, Nat.reduceMul, Nat.reduceEqDiff, Nat.reduceLT, Nat.reduceLeDiff, Int.reduceToNat, Int.reduceLT, Int.reduceLE, Int.reduceEq, Int.reduceNeg, Int.reduceAdd, Int.reduceSub, Int.reduceMul]
  refine loop_to (N + 1) (fun k st => ∃ (j : Nat → D), st = ⟨(lD :: .int .i64 (N : Int) :: j 2 :: j 3 :: j 4 :: .int .i64 ((freeTo l k : Nat) : Int) :: .int .i64 (k : Int) :: j 7 :: j 8 :: j 9 :: j 10 :: j 11 :: j 12 :: j 13 :: j 14 :: j 15 :: j 16 :: j 17 :: j 18 :: j 19 :: j 20 :: j 21 :: j 22 :: j 23 :: j 24 :: j 25 :: j 26 :: j 27 :: j 28 :: j 29 :: j 30 :: j 31 :: j 32 :: []), h⟩) (junk rfl) ?_
  rintro k st hk ⟨j, rfl⟩
  have hfk := hfl k
  by_cases hkN : k ≤ N
  · have hkN' : (k : Int) ≤ N := by omega
    simp (disch := first | omega | (simp only [List.length_append, List.length_cons, List.length_nil]; omega)) only [c17r0, c17r1, c17r2, c17r3, c17r4, c17r5, c17r6, c17r7, c17r8, c17l9, c17r10, c17r11, c17r12, c17l13, c17r14, hkN', go_sem, ↓reduceIte, reduceCtorEq, Nat.reduceAdd, Nat.reduceSub, Nat.reducePow, Nat.reduceMul, Nat.reduceEqDiff, Nat.reduceLT, Nat.reduceLeDiff, Int.reduceToNat, Int.reduceLT, Int.reduceLE, Int.reduceEq, Int.reduceNeg, Int.reduceAdd, Int.reduceSub, Int.reduceMul]
    refine loop_to l.length (fun i st => ∃ (j : Nat → D), st = ⟨(lD :: .int .i64 (N : Int) :: j 2 :: j 3 :: j 4 :: .int .i64 ((freeTo l k : Nat) : Int) :: .int .i64 (k : Int) :: .bool (!((l.take i).any fun x => x == (k : Int))) :: .int .i64 (i : Int) :: j 9 :: j 10 :: j 11 :: j 12 :: j 13 :: j 14 :: j 15 :: j 16 :: j 17 :: j 18 :: j 19 :: j 20 :: j 21 :: j 22 :: j 23 :: j 24 :: j 25 :: j 26 :: j 27 :: j 28 :: j 29 :: j 30 :: j 31 :: j 32 :: []), h⟩) (junk rfl) ?_
    rintro i st hi ⟨j, rfl⟩
    by_cases hin : i < l.length
    · have hin' : (i : Int) < l.length := by omega
      obtain ⟨p, cs, e1, e2, e3⟩ := s.elem (k := .i64) (i := (i : Int)) (by omega) (by omega)
      have e4 := e3 0 (by omega)
      rw [show ((i : Int).toNat * 1 + 0) = i by omega, ints_get hin] at e4
      have e5 : IntKind.i64.wrap ((i : Int) + 1) = ((i + 1 : Nat) : Int) := by rw [w_i64 (by omega) (by omega)]; omega
      have hsn : ((l.take (i + 1)).any fun x => x == (k : Int)) = (((l.take i).any fun x => x == (k : Int)) || (l.getD i 0 == (k : Int))) := by
        rw [List.take_add_one, List.any_append, List.getElem?_eq_getElem hin, List.getD_eq_getElem?_getD, List.getElem?_eq_getElem hin]; simp
      rw [hsn]
      cases hal : (l.take i).any fun x => x == (k : Int) with
      | true =>
        simp (disch := first | omega | (simp only [List.length_append, List.length_cons, List.length_nil]; omega)) only [c17r0, c17r1, c17r2, c17r3, c17r4, c17r5, c17r6, c17r7, c17r8, c17l9, c17r10, c17r11, c17r12, c17l13, c17r14, s.lend, s.sort, hin', e5, go_sem, ↓reduceIte, reduceCtorEq, Nat.reduceAdd, Nat.reduceSub, Nat.reducePow, Nat.reduceMul, Nat.reduceEqDiff, Nat.reduceLT, Nat.reduceLeDiff, Int.reduceToNat, Int.reduceLT, Int.reduceLE, Int.reduceEq, Int.reduceNeg, Int.reduceAdd, Int.reduceSub, Int.reduceMul]
        exact ⟨hin, junk rfl⟩
      | false =>
        by_cases hv : l.getD i 0 = (k : Int)
        · have hb : (l.getD i 0 == (k : Int)) = true := by simpa using hv
          rw [hb]
          rw [hv] at e4
          simp (disch := first | omega | (simp only [List.length_append, List.length_cons, List.length_nil]; omega)) only [c17r0, c17r1, c17r2, c17r3, c17r4, c17r5, c17r6, c17r7, c17r8, c17l9, c17r10, c17r11, c17r12, c17l13, c17r14, s.lend, s.sort, hin', e1, e2, e4, e5, go_sem, ↓reduceIte, reduceCtorEq, Nat.reduceAdd, Nat.reduceSub, Nat.reducePow, Nat.reduceMul, Nat.reduceEqDiff, Nat.reduceLT, Nat.reduceLeDiff, Int.reduceToNat, Int.reduceLT, Int.reduceLE, Int.reduceEq, Int.reduceNeg, Int.reduceAdd, Int.reduceSub, Int.reduceMul]
          exact ⟨hin, junk rfl⟩
        · have hb : (l.getD i 0 == (k : Int)) = false := by simpa using hv
          rw [hb]
          simp (disch := first | omega | (simp only [List.length_append, List.length_cons, List.length_nil]; omega)) only [c17r0, c17r1, c17r2, c17r3, c17r4, c17r5, c17r6, c17r7, c17r8, c17l9, c17r10, c17r11, c17r12, c17l13, c17r14, s.lend, s.sort, hin', e1, e2, e4, e5, hv, go_sem, ↓reduceIte, reduceCtorEq, Nat.reduceAdd, Nat.reduceSub, Nat.reducePow, Nat.reduceMul, Nat.reduceEqDiff, Nat.reduceLT, Nat.reduceLeDiff, Int.reduceToNat, Int.reduceLT, Int.reduceLE, Int.reduceEq, Int.reduceNeg, Int.reduceAdd, Int.reduceSub, Int.reduceMul]
          exact ⟨hin, junk rfl⟩
    · have hin' : ¬ (i : Int) < l.length := by omega
      have : i = l.length := by omega
      subst this
      rw [List.take_length]
      have hsu := freeTo_succ l k
      have hfb : freeB l k = !(l.any fun x => x == (k : Int)) := rfl
      rw [← hfb]
      have e5 : IntKind.i64.wrap ((k : Int) + 1) = ((k + 1 : Nat) : Int) := by rw [w_i64 (by omega) (by omega)]; omega
      cases hb : freeB l k with
      | true =>
        rw [hb, if_pos rfl] at hsu
        have e6 : IntKind.i64.wrap (((freeTo l k : Nat) : Int) + 1) = ((freeTo l (k + 1) : Nat) : Int) := by rw [w_i64 (by omega) (by omega)]; omega
        simp (disch := first | omega | (simp only [List.length_append, List.length_cons, List.length_nil]; omega)) only [c17r0, c17r1, c17r2, c17r3, c17r4, c17r5, c17r6, c17r7, c17r8, c17l9, c17r10, c17r11, c17r12, c17l13, c17r14, s.lend, s.sort, hin', e5, e6, go_sem, ↓reduceIte, reduceCtorEq, Nat.reduceAdd, Nat.reduceSub, Nat.reducePow, Nat.reduceMul, Nat.reduceEqDiff, Nat.reduceLT, Nat.reduceLeDiff, Int.reduceToNat, Int.reduceLT, Int.reduceLE, Int.reduceEq, Int.reduceNeg, Int.reduceAdd, Int.reduceSub, Int.reduceMul]
        exact ⟨by omega, junk rfl⟩
      | false =>
        rw [hb] at hsu
        simp only [Bool.false_eq_true, if_false, Nat.add_zero] at hsu
        simp (disch := first | omega | (simp only [List.length_append, List.length_cons, List.length_nil]; omega)) only [c17r0, c17r1, c17r2, c17r3, c17r4, c17r5, c17r6, c17r7, c17r8, c17l9, c17r10, c17r11, c17r12, c17l13, c17r14, s.lend, s.sort, hin', e5, go_sem, ↓reduceIte, reduceCtorEq, Nat.reduceAdd, Nat.reduceSub, Nat.reducePow, Nat.reduceMul, Nat.reduceEqDiff, Nat.reduceLT, Nat.reduceLeDiff, Int.reduceToNat, Int.reduceLT, Int.reduceLE, Int.reduceEq, Int.reduceNeg, Int.reduceAdd, Int.reduceSub, Int.reduceMul]
        exact ⟨by omega, by rw [hsu]; exact junk rfl⟩
  · have hkN' : ¬ (k : Int) ≤ N := by omega
    have : k = N + 1 := by omega
    subst this
    simp (disch := first | omega | (simp only [List.length_append, List.length_cons, List.length_nil]; omega)) only [c17r0, c17r1, c17r2, c17r3, c17r4, c17r5, c17r6, c17r7, c17r8, c17l9, c17r10, c17r11, c17r12, c17l13, c17r14, hkN', go_sem, ↓reduceIte, reduceCtorEq, Nat.reduceAdd, Nat.reduceSub, Nat.reducePow, Nat.reduceMul, Nat.reduceEqDiff, Nat.reduceLT, Nat.reduceLeDiff, Int.reduceToNat, Int.reduceLT, Int.reduceLE, Int.reduceEq, Int.reduceNeg, Int.reduceAdd, Int.reduceSub, Int.reduceMul]
    exact FinOk.all ⟨rfl, rfl⟩
end Go.Proofs
