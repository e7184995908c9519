/-
  Own work. The walks of direct.New and of the document's Check.
-/
import Derived.Test.YtjciahobhaaheaaP
namespace Go.Proofs
open Go Go.Ytjciahobhaaheaa
set_option linter.unusedVariables false
set_option linter.unusedSimpArgs false
set_option maxRecDepth 10000

/-! ### weighbridge/direct.New, params 2 -/
def c9r0 : List AStm := [.op (some 4) none (.mv (.c .nilp)),
    .op (some 5) none (.alloc [(.int .i64 0), (.int .i64 0)])]
def c9r1 : List AStm := [.op (some 10) none (.mv (.t 1)),
    .op (some 11) none (.bin .lss (.t 10) (.c (.int .i64 0))),
    .op (some 12) none (.mv (.t 11)),
    .op (some 13) (some (12, false)) (.mv (.t 1)),
    .op (some 14) (some (12, false)) (.bin .gtr (.t 13) (.c (.int .i64 65535))),
    .op (some 15) none (.pick (.t 12) (.c (.bool true)) (.t 14))]
def c9r2 : List AStm := [.op (some 16) none (.build [(.int .i64 0), (.int .i64 0)] [(0, 1, (.c (.int .i64 1)))]),
    .op (some 4) none (.mv (.c .nilp)),
    .op none none (.store 2 (.t 5) (.t 16))]
def c9r3 : List AStm := [.op (some 17) none (.mv (.t 0)),
    .op (some 18) none (.len false (.t 17)),
    .op (some 19) none (.bin .gtr (.t 18) (.c (.int .i64 256)))]
def c9r4 : List AStm := [.op (some 20) none (.build [(.int .i64 0), (.int .i64 0)] [(0, 1, (.c (.int .i64 7))), (1, 1, (.c (.int .i64 256)))]),
    .op (some 4) none (.mv (.c .nilp)),
    .op none none (.store 2 (.t 5) (.t 20))]
def c9r5 : List AStm := [.op (some 21) none (.mv (.t 1)),
    .op (some 22) none (.mv (.t 0)),
    .op (some 23) none (.len false (.t 22)),
    .op (some 24) none (.mv (.t 0)),
    .op (some 25) none (.len false (.t 24)),
    .call (some 26) none (.c (.fn (.func 21) [] [])) [(.t 25)],
    .op (some 27) none (.mkmap),
    .op (some 28) none (.build [(.int .i64 0), (.int .i64 0), .nils, .any] [(0, 1, (.t 21)), (1, 1, (.t 23)), (2, 1, (.t 26)), (3, 1, (.t 27))]),
    .op (some 29) none (.box (.t 28)),
    .op (some 6) none (.mv (.t 29))]
def c9r6 : List AStm := [.op (some 30) none (.mv (.t 0)),
    .op (some 31) none (.len false (.t 30)),
    .op (some 32) none (.mv (.c (.int .i64 0)))]
def c9r7 : List AStm := [.op (some 33) none (.bin .lss (.t 32) (.t 31))]
def c9r8 : List AStm := [.op (some 34) none (.mv (.t 32)),
    .op (some 35) none (.ixs 1 (.t 30) (.t 32)),
    .op (some 36) none (.load none (.t 35)),
    .op (some 7) none (.mv (.t 34)),
    .op (some 8) none (.mv (.t 36))]
def c9r9 : List AStm := [.op (some 37) none (.mv (.t 6)),
    .op (some 38) none (.nilchk (.t 37)),
    .op (some 39) none (.faddr 2 (.t 38)),
    .op (some 40) none (.load none (.t 39)),
    .op (some 9) none (.mv (.t 40))]
def c9r10 : List AStm := [.op (some 42) none (.mv (.t 8)),
    .op (some 43) none (.bin .lss (.t 42) (.c (.int .i64 (-1)))),
    .op (some 44) none (.mv (.t 43)),
    .op (some 45) (some (44, false)) (.mv (.t 8)),
    .op (some 46) (some (44, false)) (.mv (.t 1)),
    .op (some 47) (some (44, false)) (.bin .gtr (.t 45) (.t 46)),
    .op (some 48) none (.pick (.t 44) (.c (.bool true)) (.t 47)),
    .op (some 41) none (.mv (.t 48))]
def c9r11 : List AStm := [.op (some 49) none (.mv (.t 7)),
    .op (some 50) none (.build [(.int .i64 0), (.int .i64 0)] [(0, 1, (.c (.int .i64 1))), (1, 1, (.t 49))]),
    .op (some 4) none (.mv (.c .nilp)),
    .op none none (.store 2 (.t 5) (.t 50))]
def c9r12 : List AStm := [.op (some 52) none (.mv (.t 8)),
    .op (some 53) none (.bin .geq (.t 52) (.c (.int .i64 0))),
    .op (some 51) none (.mv (.t 53))]
def c9r13 : List AStm := [.op (some 54) none (.mv (.t 6)),
    .op (some 55) none (.nilchk (.t 54)),
    .op (some 56) none (.faddr 3 (.t 55)),
    .op (some 57) none (.load none (.t 56)),
    .op (some 58) none (.mv (.t 8)),
    .op (some 59) none (.mapget .nils (.t 57) (.t 58)),
    .op (some 60) none (.isnil false 2 (.t 59))]
def c9r14 : List AStm := []
def c9r15 : List AStm := [.op (some 61) none (.mv (.t 6)),
    .op (some 62) none (.nilchk (.t 61)),
    .op (some 63) none (.faddr 3 (.t 62)),
    .op (some 64) none (.load none (.t 63)),
    .op (some 65) none (.mv (.t 8)),
    .op (some 66) none (.mv (.t 0)),
    .op (some 67) none (.len false (.t 66)),
    .callG (some 68) none (.c (.fn (.func 21) [] [])) [(.t 67)],
    .op none none (.mapset (.t 64) (.t 65) (.t 68))]
def c9r16 : List AStm := [.op (some 69) none (.mv (.t 6)),
    .op (some 70) none (.nilchk (.t 69)),
    .op (some 71) none (.faddr 3 (.t 70)),
    .op (some 72) none (.load none (.t 71)),
    .op (some 73) none (.mv (.t 8)),
    .op (some 74) none (.mapget .nils (.t 72) (.t 73)),
    .op (some 9) none (.mv (.t 74))]
def c9r17 : List AStm := [.op (some 75) none (.mv (.t 9)),
    .op (some 76) none (.mv (.t 7)),
    .op (some 77) none (.bin .quo (.t 76) (.c (.int .i64 64))),
    .op (some 78) none (.ixs 1 (.t 75) (.t 77)),
    .op (some 79) none (.load none (.t 78)),
    .op (some 80) none (.mv (.t 7)),
    .op (some 81) none (.bin .rem (.t 80) (.c (.int .i64 64))),
    .op (some 82) none (.conv .u64 (.t 81)),
    .op (some 83) none (.bin .shl (.c (.int .u64 1)) (.t 82)),
    .op (some 84) none (.bin .or (.t 79) (.t 83)),
    .op (some 85) none (.ixs 1 (.t 75) (.t 77)),
    .op none none (.store 1 (.t 85) (.t 84))]
def c9r18 : List AStm := [.op (some 86) none (.bin .add (.t 32) (.c (.int .i64 1))),
    .op (some 32) none (.mv (.t 86))]
def c9l19 : AC := .seq (.reg c9r7) (.seq (.cond (.t 33) (.skip) (.exit 0)) (.seq (.block 1 (.seq (.reg c9r8) (.seq (.reg c9r9) (.seq (.block 2 (.seq (.reg c9r10) (.cond (.t 41) (.seq (.reg c9r11) (.ret)) (.seq (.reg c9r12) (.cond (.t 51) (.seq (.seq (.reg c9r13) (.cond (.t 60) (.dreg c9r14 c9r15) (.skip))) (.reg c9r16)) (.skip)))))) (.reg c9r17))))) (.reg c9r18)))
def c9r20 : List AStm := [.op (some 87) none (.mv (.t 6)),
    .op (some 88) none (.build [(.int .i64 0), (.int .i64 0)] []),
    .op (some 4) none (.mv (.t 87)),
    .op none none (.store 2 (.t 5) (.t 88))]
def c9 : CF := ⟨.seq (.reg c9r0) (.seq (.seq (.reg c9r1) (.cond (.t 15) (.seq (.reg c9r2) (.ret)) (.skip))) (.seq (.seq (.reg c9r3) (.cond (.t 19) (.seq (.reg c9r4) (.ret)) (.skip))) (.seq (.reg c9r5) (.seq (.seq (.reg c9r6) (.block 0 (.loop c9l19))) (.seq (.reg c9r20) (.ret)))))), [.tmp 4, .cell 5 (some 2)], 89⟩
theorem cf9 : cfun Try.prog 9 = some c9 := by kernel_rfl

/-! ### weighbridge/weighbridgeref21.Check, params 2 -/
def c10r0 : List AStm := [.op (some 4) none (.alloc [(.int .i64 0), (.int .i64 0)])]
def c10r1 : List AStm := [.op (some 6) none (.mv (.t 1)),
    .op (some 7) none (.bin .lss (.t 6) (.c (.int .i64 0))),
    .op (some 8) none (.mv (.t 7)),
    .op (some 9) (some (8, false)) (.mv (.t 1)),
    .op (some 10) (some (8, false)) (.bin .gtr (.t 9) (.c (.int .i64 65535))),
    .op (some 11) none (.pick (.t 8) (.c (.bool true)) (.t 10))]
def c10r2 : List AStm := [.op (some 12) none (.build [(.int .i64 0), (.int .i64 0)] [(0, 1, (.c (.int .i64 1)))]),
    .op none none (.store 2 (.t 4) (.t 12))]
def c10r3 : List AStm := [.op (some 13) none (.mv (.t 0)),
    .op (some 14) none (.len false (.t 13)),
    .op (some 15) none (.bin .gtr (.t 14) (.c (.int .i64 256)))]
def c10r4 : List AStm := [.op (some 16) none (.build [(.int .i64 0), (.int .i64 0)] [(0, 1, (.c (.int .i64 7))), (1, 1, (.c (.int .i64 256)))]),
    .op none none (.store 2 (.t 4) (.t 16))]
def c10r5 : List AStm := [.op (some 5) none (.mv (.c (.int .i64 0)))]
def c10r6 : List AStm := [.op (some 17) none (.mv (.t 5)),
    .op (some 18) none (.mv (.t 0)),
    .op (some 19) none (.len false (.t 18)),
    .op (some 20) none (.bin .lss (.t 17) (.t 19))]
def c10r7 : List AStm := [.op (some 23) none (.mv (.t 0)),
    .op (some 24) none (.mv (.t 5)),
    .op (some 25) none (.ixs 1 (.t 23) (.t 24)),
    .op (some 26) none (.load none (.t 25)),
    .op (some 27) none (.bin .lss (.t 26) (.c (.int .i64 (-1)))),
    .op (some 28) none (.mv (.t 27)),
    .op (some 29) (some (28, false)) (.mv (.t 0)),
    .op (some 30) (some (28, false)) (.mv (.t 5)),
    .op (some 31) (some (28, false)) (.ixs 1 (.t 29) (.t 30)),
    .op (some 32) (some (28, false)) (.load none (.t 31)),
    .op (some 33) (some (28, false)) (.mv (.t 1)),
    .op (some 34) (some (28, false)) (.bin .gtr (.t 32) (.t 33)),
    .op (some 35) none (.pick (.t 28) (.c (.bool true)) (.t 34))]
def c10r8 : List AStm := [.op (some 36) none (.mv (.t 5)),
    .op (some 37) none (.build [(.int .i64 0), (.int .i64 0)] [(0, 1, (.c (.int .i64 1))), (1, 1, (.t 36))]),
    .op none none (.store 2 (.t 4) (.t 37))]
def c10r9 : List AStm := [.op (some 21) none (.mv (.t 5)),
    .op (some 22) none (.bin .add (.t 21) (.c (.int .i64 1))),
    .op (some 5) none (.mv (.t 22))]
def c10l10 : AC := .seq (.seq (.reg c10r6) (.cond (.t 20) (.skip) (.exit 0))) (.seq (.block 1 (.seq (.reg c10r7) (.cond (.t 35) (.seq (.reg c10r8) (.ret)) (.skip)))) (.reg c10r9))
def c10r11 : List AStm := [.op (some 38) none (.build [(.int .i64 0), (.int .i64 0)] []),
    .op none none (.store 2 (.t 4) (.t 38))]
def c10 : CF := ⟨.seq (.reg c10r0) (.seq (.seq (.reg c10r1) (.cond (.t 11) (.seq (.reg c10r2) (.ret)) (.skip))) (.seq (.seq (.reg c10r3) (.cond (.t 15) (.seq (.reg c10r4) (.ret)) (.skip))) (.seq (.seq (.reg c10r5) (.block 0 (.loop c10l10))) (.seq (.reg c10r11) (.ret))))), [.cell 4 (some 2)], 39⟩
theorem cf10 : cfun Try.prog 10 = some c10 := by kernel_rfl



theorem check_fc (h : Heap) (lD : D) (l : List Int) (s : SlOf h 1 lD (ints l) l.length) (hlen : l.length ≤ 1048576) (most : Int) :
    FC Try.prog 10 [lD, .int .i64 most] h fun d h' => d = .agg [.int .i64 (chkF l most).1, .int .i64 (chkF l most).2] ∧ h' = h := by
  refine FC.goes cf10 ?_; simp only [c10]; simp only [List.length_cons, List.length_nil, Nat.reduceAdd, Nat.reduceSub, List.replicate_succ, List.replicate_zero, List.cons_append, List.nil_append]
  by_cases h0 : most < 0
  · have he : chkF l most = (1, 0) := by simp [chkF, h0]
    rw [he]
    simp (disch := first | omega | (simp only [List.length_append, List.length_cons, List.length_nil]; omega)) only [c10r0, c10r1, c10r2, c10r3, c10r4, c10r5, c10r6, c10r7, c10r8, c10r9, c10l10, c10r11, h0, fillD, splice0, go_sem, ↓reduceIte, reduceCtorEq, Nat.reduceAdd, Nat.reduceSub, Nat.reducePow, Nat.reduceMul, Nat.reduceEqDiff, Nat.reduceLT, Nat.reduceLeDiff, Int.reduceToNat, Int.reduceLT, Int.reduceLE, Int.reduceEq, Int.reduceNeg, Int.reduceAdd, Int.reduceSub, Int.reduceMul]
    exact FinOk.drop (.inl rfl) (by simp [underL, underD]) ⟨rfl, rfl⟩
  · by_cases h1 : 65535 < most
    · have he : chkF l most = (1, 0) := by simp [chkF, h1]
      rw [he]
      simp (disch := first | omega | (simp only [List.length_append, List.length_cons, List.length_nil]; omega)) only [c10r0, c10r1, c10r2, c10r3, c10r4, c10r5, c10r6, c10r7, c10r8, c10r9, c10l10, c10r11, h0, h1, fillD, splice0, go_sem, ↓reduceIte, reduceCtorEq, Nat.reduceAdd, Nat.reduceSub, Nat.reducePow, Nat.reduceMul, Nat.reduceEqDiff, Nat.reduceLT, Nat.reduceLeDiff, Int.reduceToNat, Int.reduceLT, Int.reduceLE, Int.reduceEq, Int.reduceNeg, Int.reduceAdd, Int.reduceSub, Int.reduceMul]
      exact FinOk.drop (.inl rfl) (by simp [underL, underD]) ⟨rfl, rfl⟩
    · have hm : ¬ (most < 0 ∨ 65535 < most) := by omega
      have s' := s.low [.box [.int .i64 0, .int .i64 0]]
      by_cases h2 : (256 : Int) < l.length
      · have he : chkF l most = (7, 256) := by
          unfold chkF
          rw [if_neg hm, if_pos (by omega)]
        rw [he]
        simp (disch := first | omega | (simp only [List.length_append, List.length_cons, List.length_nil]; omega)) only [c10r0, c10r1, c10r2, c10r3, c10r4, c10r5, c10r6, c10r7, c10r8, c10r9, c10l10, c10r11, h0, h1, h2, s'.lend, s'.sort, fillD, splice0, go_sem, ↓reduceIte, reduceCtorEq, Nat.reduceAdd, Nat.reduceSub, Nat.reducePow, Nat.reduceMul, Nat.reduceEqDiff, Nat.reduceLT, Nat.reduceLeDiff, Int.reduceToNat, Int.reduceLT, Int.reduceLE, Int.reduceEq, Int.reduceNeg, Int.reduceAdd, Int.reduceSub, Int.reduceMul]
        exact FinOk.drop (.inl rfl) (by simp [underL, underD]) ⟨rfl, rfl⟩
      · have h2' : ¬ 256 < l.length := by omega
        simp (disch := first | omega | (simp only [List.length_append, List.length_cons, List.length_nil]; omega)) only [c10r0, c10r1, c10r2, c10r3, c10r4, c10r5, c10r6, c10r7, c10r8, c10r9, c10l10, c10r11, h0, h1, h2, s'.lend, s'.sort, go_sem, ↓reduceIte, reduceCtorEq, Nat.reduceAdd, Nat.reduceSub, Nat.reducePow, Nat.reduceMul, Nat.reduceEqDiff, Nat.reduceLT, Nat.reduceLeDiff, Int.reduceToNat, Int.reduceLT, Int.reduceLE, Int.reduceEq, Int.reduceNeg, Int.reduceAdd, Int.reduceSub, Int.reduceMul]
        refine loop_to l.length (fun k st => (∀ j < k, ¬ (l.getD j 0 < -1 ∨ most < l.getD j 0)) ∧ ∃ (j : Nat → D), st = ⟨(lD :: .int .i64 most :: j 2 :: j 3 :: .ref h.length 0 :: .int .i64 (k : Int) :: j 6 :: j 7 :: j 8 :: j 9 :: j 10 :: j 11 :: j 12 :: j 13 :: j 14 :: j 15 :: j 16 :: j 17 :: j 18 :: j 19 :: j 20 :: j 21 :: j 22 :: j 23 :: j 24 :: j 25 :: j 26 :: j 27 :: j 28 :: j 29 :: j 30 :: j 31 :: j 32 :: j 33 :: j 34 :: j 35 :: j 36 :: j 37 :: j 38 :: []), h ++ [.box [.int .i64 0, .int .i64 0]]⟩) ⟨fun j hj => absurd hj (by omega), junk rfl⟩ ?_
        rintro k st hk ⟨hp, j, rfl⟩
        by_cases hkn : k < l.length
        · have hkn' : (k : Int) < l.length := by omega
          obtain ⟨p, cs, e1, e2, e3⟩ := s'.elem (k := .i64) (i := (k : Int)) (by omega) (by omega)
          have e4 := e3 0 (by omega)
          rw [show ((k : Int).toNat * 1 + 0) = k by omega, ints_get hkn] at e4
          have e5 : IntKind.i64.wrap ((k : Int) + 1) = ((k + 1 : Nat) : Int) := by rw [w_i64 (by omega) (by omega)]; omega
          by_cases hb1 : l.getD k 0 < -1
          · have he := chkF_bad hm h2' hkn (.inl hb1) hp
            rw [he]
            simp (disch := first | omega | (simp only [List.length_append, List.length_cons, List.length_nil]; omega)) only [c10r0, c10r1, c10r2, c10r3, c10r4, c10r5, c10r6, c10r7, c10r8, c10r9, c10l10, c10r11, hkn', s'.lend, s'.sort, e1, e2, e4, hb1, fillD, splice0, go_sem, ↓reduceIte, reduceCtorEq, Nat.reduceAdd, Nat.reduceSub, Nat.reducePow, Nat.reduceMul, Nat.reduceEqDiff, Nat.reduceLT, Nat.reduceLeDiff, Int.reduceToNat, Int.reduceLT, Int.reduceLE, Int.reduceEq, Int.reduceNeg, Int.reduceAdd, Int.reduceSub, Int.reduceMul]
            exact FinOk.drop (.inl rfl) (by simp [underL, underD]) ⟨rfl, rfl⟩
          · by_cases hb2 : most < l.getD k 0
            · have he := chkF_bad hm h2' hkn (.inr hb2) hp
              rw [he]
              simp (disch := first | omega | (simp only [List.length_append, List.length_cons, List.length_nil]; omega)) only [c10r0, c10r1, c10r2, c10r3, c10r4, c10r5, c10r6, c10r7, c10r8, c10r9, c10l10, c10r11, hkn', s'.lend, s'.sort, e1, e2, e4, hb1, hb2, fillD, splice0, go_sem, ↓reduceIte, reduceCtorEq, Nat.reduceAdd, Nat.reduceSub, Nat.reducePow, Nat.reduceMul, Nat.reduceEqDiff, Nat.reduceLT, Nat.reduceLeDiff, Int.reduceToNat, Int.reduceLT, Int.reduceLE, Int.reduceEq, Int.reduceNeg, Int.reduceAdd, Int.reduceSub, Int.reduceMul]
              exact FinOk.drop (.inl rfl) (by simp [underL, underD]) ⟨rfl, rfl⟩
            · simp (disch := first | omega | (simp only [List.length_append, List.length_cons, List.length_nil]; omega)) only [c10r0, c10r1, c10r2, c10r3, c10r4, c10r5, c10r6, c10r7, c10r8, c10r9, c10l10, c10r11, hkn', s'.lend, s'.sort, e1, e2, e4, hb1, hb2, e5, go_sem, ↓reduceIte, reduceCtorEq, Nat.reduceAdd, Nat.reduceSub, Nat.reducePow, Nat.reduceMul, Nat.reduceEqDiff, Nat.reduceLT, Nat.reduceLeDiff, Int.reduceToNat, Int.reduceLT, Int.reduceLE, Int.reduceEq, Int.reduceNeg, Int.reduceAdd, Int.reduceSub, Int.reduceMul]
              refine ⟨hkn, fun j hj => ?_, junk rfl⟩
              by_cases hjk : j = k
              · subst hjk; exact fun h => h.elim hb1 hb2
              · exact hp j (by omega)
        · have hkn' : ¬ (k : Int) < l.length := by omega
          have : k = l.length := by omega
          subst this
          have he := chkF_good hm h2' hp
          rw [he]
          simp (disch := first | omega | (simp only [List.length_append, List.length_cons, List.length_nil]; omega)) only [c10r0, c10r1, c10r2, c10r3, c10r4, c10r5, c10r6, c10r7, c10r8, c10r9, c10l10, c10r11, hkn', s'.lend, s'.sort, fillD, splice0, go_sem, ↓reduceIte, reduceCtorEq, Nat.reduceAdd, Nat.reduceSub, Nat.reducePow, Nat.reduceMul, Nat.reduceEqDiff, Nat.reduceLT, Nat.reduceLeDiff, Int.reduceToNat, Int.reduceLT, Int.reduceLE, Int.reduceEq, Int.reduceNeg, Int.reduceAdd, Int.reduceSub, Int.reduceMul]
          exact FinOk.drop (.inl rfl) (by simp [underL, underD]) ⟨rfl, rfl⟩

theorem Ext.setR {h Hp : Heap} {r : Nat} {b : Blk} (e : Ext h Hp) (hr : h.length ≤ r) : Ext h (Hp.set r b) := by
  obtain ⟨L, rfl⟩ := e
  exact ⟨L.set (r - h.length) b, List.set_append_right _ _ hr⟩
theorem MemOk.same {ks : List (Nat × Nat)} {l : List Int} {k : Nat} (hm : MemOk ks l k) (hk : ∀ n : Nat, l.getD k 0 = (n : Int) → n ∈ ks.map (·.1)) : MemOk ks l (k + 1) := fun n => by
  constructor
  · intro h
    obtain ⟨i, h1, h2⟩ := (hm n).1 h
    exact ⟨i, by omega, h2⟩
  · rintro ⟨i, h1, h2⟩
    by_cases hik : i = k
    · subst hik; exact hk n h2
    · exact (hm n).2 ⟨i, by omega, h2⟩
theorem MemOk.add {ks : List (Nat × Nat)} {l : List Int} {k n r : Nat} (hm : MemOk ks l k) (hk : l.getD k 0 = (n : Int)) : MemOk (ks ++ [(n, r)]) l (k + 1) := fun n' => by
  rw [List.map_append, List.mem_append, hm n']
  constructor
  · rintro (⟨i, h1, h2⟩ | h)
    · exact ⟨i, by omega, h2⟩
    · simp only [List.map_cons, List.map_nil, List.mem_singleton] at h
      subst h
      exact ⟨k, by omega, hk⟩
  · rintro ⟨i, h1, h2⟩
    by_cases hik : i = k
    · subst hik
      rw [hk] at h2
      right
      simp only [List.map_cons, List.map_nil, List.mem_singleton]; omega
    · exact .inl ⟨i, by omega, h2⟩
/-- What New hands back. -/
def NewR (l : List Int) (most : Int) (h : Heap) (d : D) (h' : Heap) : Prop :=
  Ext h h' ∧ ((chkF l most ≠ (0, 0) ∧ d = .tup [.nilp, .agg [.int .i64 (chkF l most).1, .int .i64 (chkF l most).2]]) ∨
    (chkF l most = (0, 0) ∧ (¬ (most < 0 ∨ 65535 < most)) ∧ l.length ≤ 256 ∧ (∀ j < l.length, ¬ (l.getD j 0 < -1 ∨ most < l.getD j 0)) ∧ ∃ T, d = .tup [.ref T 0, .agg [.int .i64 0, .int .i64 0]] ∧ TabOk h' T l most))

theorem dnew_fc (h : Heap) (lD : D) (l : List Int) (s : SlOf h 1 lD (ints l) l.length) (hlen : l.length ≤ 1048576) (most : Int) :
    FC Try.prog 9 [lD, .int .i64 most] h (NewR l most h) := by
  refine FC.goes cf9 ?_; simp only [c9]; simp only [List.length_cons, List.length_nil, Nat.reduceAdd, Nat.reduceSub, List.replicate_succ, List.replicate_zero, List.cons_append, List.nil_append]
  by_cases h0 : most < 0
  · have he : chkF l most = (1, 0) := by simp [chkF, h0]
    simp (disch := first | omega | (simp only [List.length_append, List.length_cons, List.length_nil]; omega)) only [c9r0, c9r1, c9r2, c9r3, c9r4, c9r5, c9r6, c9r7, c9r8, c9r9, c9r10, c9r11, c9r12, c9r13, c9r14, c9r15, c9r16, c9r17, c9r18, c9l19, c9r20, h0, fillD, splice0, go_sem, ↓reduceIte, reduceCtorEq, Nat.reduceAdd, Nat.reduceSub, Nat.reducePow, Nat.reduceMul, Nat.reduceEqDiff, Nat.reduceLT, Nat.reduceLeDiff, Int.reduceToNat, Int.reduceLT, Int.reduceLE, Int.reduceEq, Int.reduceNeg, Int.reduceAdd, Int.reduceSub, Int.reduceMul]
    exact FinOk.all ⟨⟨_, rfl⟩, .inl ⟨by rw [he]; simp, by rw [he]; rfl⟩⟩
  · by_cases h1 : 65535 < most
    · have he : chkF l most = (1, 0) := by simp [chkF, h1]
      simp (disch := first | omega | (simp only [List.length_append, List.length_cons, List.length_nil]; omega)) only [c9r0, c9r1, c9r2, c9r3, c9r4, c9r5, c9r6, c9r7, c9r8, c9r9, c9r10, c9r11, c9r12, c9r13, c9r14, c9r15, c9r16, c9r17, c9r18, c9l19, c9r20, h0, h1, fillD, splice0, go_sem, ↓reduceIte, reduceCtorEq, Nat.reduceAdd, Nat.reduceSub, Nat.reducePow, Nat.reduceMul, Nat.reduceEqDiff, Nat.reduceLT, Nat.reduceLeDiff, Int.reduceToNat, Int.reduceLT, Int.reduceLE, Int.reduceEq, Int.reduceNeg, Int.reduceAdd, Int.reduceSub, Int.reduceMul]
      exact FinOk.all ⟨⟨_, rfl⟩, .inl ⟨by rw [he]; simp, by rw [he]; rfl⟩⟩
    · have hm : ¬ (most < 0 ∨ 65535 < most) := by omega
      have s' := s.low [.box [.int .i64 0, .int .i64 0]]
      by_cases h2 : (256 : Int) < l.length
      · have he : chkF l most = (7, 256) := by
          unfold chkF
          rw [if_neg hm, if_pos (by omega)]
        simp (disch := first | omega | (simp only [List.length_append, List.length_cons, List.length_nil]; omega)) only [c9r0, c9r1, c9r2, c9r3, c9r4, c9r5, c9r6, c9r7, c9r8, c9r9, c9r10, c9r11, c9r12, c9r13, c9r14, c9r15, c9r16, c9r17, c9r18, c9l19, c9r20, h0, h1, h2, s'.lend, s'.sort, fillD, splice0, go_sem, ↓reduceIte, reduceCtorEq, Nat.reduceAdd, Nat.reduceSub, Nat.reducePow, Nat.reduceMul, Nat.reduceEqDiff, Nat.reduceLT, Nat.reduceLeDiff, Int.reduceToNat, Int.reduceLT, Int.reduceLE, Int.reduceEq, Int.reduceNeg, Int.reduceAdd, Int.reduceSub, Int.reduceMul]
        exact FinOk.all ⟨⟨_, rfl⟩, .inl ⟨by rw [he]; simp, by rw [he]; rfl⟩⟩
      · have h2' : ¬ 256 < l.length := by omega
        simp (disch := first | omega | (simp only [List.length_append, List.length_cons, List.length_nil]; omega)) only [c9r0, c9r1, c9r2, c9r3, c9r4, c9r5, c9r6, c9r7, c9r8, c9r9, c9r10, c9r11, c9r12, c9r13, c9r14, c9r15, c9r16, c9r17, c9r18, c9l19, c9r20, h0, h1, h2, s'.lend, s'.sort, go_sem, ↓reduceIte, reduceCtorEq, Nat.reduceAdd, Nat.reduceSub, Nat.reducePow, Nat.reduceMul, Nat.reduceEqDiff, Nat.reduceLT, Nat.reduceLeDiff, Int.reduceToNat, Int.reduceLT, Int.reduceLE, Int.reduceEq, Int.reduceNeg, Int.reduceAdd, Int.reduceSub, Int.reduceMul]
        refine gfc_of (newOwn_fc _ l.length (by omega)) ?_
        rintro d h' ⟨rfl, rfl⟩
        have s2 := s.low [.box [.int .i64 0, .int .i64 0], .grow 1 (u64s (List.replicate ((l.length + 63) / 64) 0)) ((l.length + 63) / 64), .mapb [], .box [.int .i64 most, .int .i64 (l.length : Int), .own (h.length + 1) ((l.length + 63) / 64), .mref (h.length + 2)]]
        simp (disch := first | omega | (simp only [List.length_append, List.length_cons, List.length_nil]; omega)) only [fillD, splice0, s'.lend, s'.sort, s2.lend, s2.sort, List.append_assoc, go_sem, ↓reduceIte, reduceCtorEq, Nat.reduceAdd, Nat.reduceSub, Nat.reducePow, Nat.reduceMul, Nat.reduceEqDiff, Nat.reduceLT, Nat.reduceLeDiff, Int.reduceToNat, Int.reduceLT, Int.reduceLE, Int.reduceEq, Int.reduceNeg, Int.reduceAdd, Int.reduceSub, Int.reduceMul]
        have tab0 : TabAt (h ++ [.box [.int .i64 0, .int .i64 0], .grow 1 (u64s (List.replicate ((l.length + 63) / 64) 0)) ((l.length + 63) / 64), .mapb [], .box [.int .i64 most, .int .i64 (l.length : Int), .own (h.length + 1) ((l.length + 63) / 64), .mref (h.length + 2)]]) (h.length + 3) (h.length + 2) (h.length + 1) [] l most 0 :=
          ⟨by rw [List.getElem?_append_right (by omega), Nat.add_sub_cancel_left]; rfl, by rw [List.getElem?_append_right (by omega), Nat.add_sub_cancel_left]; rfl, by rw [List.getElem?_append_right (by omega), Nat.add_sub_cancel_left]; rfl, fun e he => (by cases he), fun e he => (by cases he), by simp, by simp⟩
        refine loop_to l.length (fun k st => ∃ (Hp : Heap) (ks : List (Nat × Nat)), TabAt Hp (h.length + 3) (h.length + 2) (h.length + 1) ks l most k ∧ MemOk ks l k ∧ (∀ j < k, ¬ (l.getD j 0 < -1 ∨ most < l.getD j 0)) ∧ Hp[h.length]? = some (.box [.int .i64 0, .int .i64 0]) ∧ Ext h Hp ∧ (∀ e ∈ ks, h.length ≤ e.2) ∧
          ∃ (j : Nat → D), st = ⟨(lD :: .int .i64 most :: j 2 :: j 3 :: .nilp :: .ref h.length 0 :: .ref (h.length + 3) 0 :: j 7 :: j 8 :: j 9 :: j 10 :: j 11 :: j 12 :: j 13 :: j 14 :: j 15 :: j 16 :: j 17 :: j 18 :: j 19 :: j 20 :: j 21 :: j 22 :: j 23 :: j 24 :: j 25 :: j 26 :: j 27 :: j 28 :: j 29 :: lD :: .int .i64 (l.length : Int) :: .int .i64 (k : Int) :: j 33 :: j 34 :: j 35 :: j 36 :: j 37 :: j 38 :: j 39 :: j 40 :: j 41 :: j 42 :: j 43 :: j 44 :: j 45 :: j 46 :: j 47 :: j 48 :: j 49 :: j 50 :: j 51 :: j 52 :: j 53 :: j 54 :: j 55 :: j 56 :: j 57 :: j 58 :: j 59 :: j 60 :: j 61 :: j 62 :: j 63 :: j 64 :: j 65 :: j 66 :: j 67 :: j 68 :: j 69 :: j 70 :: j 71 :: j 72 :: j 73 :: j 74 :: j 75 :: j 76 :: j 77 :: j 78 :: j 79 :: j 80 :: j 81 :: j 82 :: j 83 :: j 84 :: j 85 :: j 86 :: j 87 :: j 88 :: []), Hp⟩) ⟨_, [], tab0, fun n => by simp, fun j hj => absurd hj (by omega), by simp, ⟨_, rfl⟩, fun e he => (by cases he), junk rfl⟩ ?_
        rintro k st hk ⟨Hp, ks, tab, hmem, hgood, bF, EH, hksF, j, rfl⟩
        have s3 := SlOf.ext s EH
        have bT := tab.box
        have bF2 : ∀ X : Blk, (Hp.set h.length X)[h.length]? = some X := fun X => get_set_eq' bF
        by_cases hkn : k < l.length
        · have hkn' : (k : Int) < l.length := by omega
          obtain ⟨p, cs, e1, e2, e3⟩ := s3.elem (k := .i64) (i := (k : Int)) (by omega) (by omega)
          have e4 := e3 0 (by omega)
          rw [show ((k : Int).toNat * 1 + 0) = k by omega, ints_get hkn] at e4
          have e5 : IntKind.i64.wrap ((k : Int) + 1) = ((k + 1 : Nat) : Int) := by rw [w_i64 (by omega) (by omega)]; omega
          -- what comes of a bit that is set in a row
          have g1 : IntKind.i64.wrap ((k / 64 : Nat) : Int) = ((k / 64 : Nat) : Int) := w_i64 (by omega) (by omega)
          have g2 : IntKind.u64.wrap ((k % 64 : Nat) : Int) = ((k % 64 : Nat) : Int) := w_u64 (by omega) (by omega)
          have hp2 : 2 ^ (k % 64) < 18446744073709551616 := Nat.lt_of_lt_of_eq (Nat.pow_lt_pow_right (n := 64) (by omega) (by omega)) (by rfl)
          have a1 : arith .shl (.int .u64 1) (.int .u64 ((k % 64 : Nat) : Int)) = some (.int .u64 ((2 ^ (k % 64) : Nat) : Int)) := by
            have := shl_u64 (x := 1) (k' := .u64) (b := ((k % 64 : Nat) : Int)) (by omega) (by omega)
            rw [Nat.one_mul, Int.toNat_natCast, w_u64 (Int.natCast_nonneg _) (Int.ofNat_lt.2 hp2)] at this
            exact this
          have hkq : k / 64 < qOf l := by unfold qOf; omega
          have hgood' : ¬ (l.getD k 0 < -1 ∨ most < l.getD k 0) → ∀ j < k + 1, ¬ (l.getD j 0 < -1 ∨ most < l.getD j 0) := fun h j hj => by
            by_cases hjk : j = k
            · subst hjk; exact h
            · exact hgood j (by omega)
          by_cases hb1 : l.getD k 0 < -1
          · have he := chkF_bad hm h2' hkn (.inl hb1) hgood
            simp (disch := first | omega | (simp only [List.length_append, List.length_cons, List.length_nil]; omega)) only [c9r0, c9r1, c9r2, c9r3, c9r4, c9r5, c9r6, c9r7, c9r8, c9r9, c9r10, c9r11, c9r12, c9r13, c9r14, c9r15, c9r16, c9r17, c9r18, c9l19, c9r20, hkn', s3.lend, s3.sort, e1, e2, e4, hb1, bT, bF, bF2, fillD, splice0, go_sem, ↓reduceIte, reduceCtorEq, Nat.reduceAdd, Nat.reduceSub, Nat.reducePow, Nat.reduceMul, Nat.reduceEqDiff, Nat.reduceLT, Nat.reduceLeDiff, Int.reduceToNat, Int.reduceLT, Int.reduceLE, Int.reduceEq, Int.reduceNeg, Int.reduceAdd, Int.reduceSub, Int.reduceMul]
            refine FinOk.all ⟨?_, .inl ⟨by rw [he]; simp, by rw [he]; rfl⟩⟩
            obtain ⟨L, rfl⟩ := EH
            exact ⟨L.set 0 _, by rw [List.set_append_right _ _ (Nat.le_refl _), Nat.sub_self]⟩
          · by_cases hb2 : most < l.getD k 0
            · have he := chkF_bad hm h2' hkn (.inr hb2) hgood
              simp (disch := first | omega | (simp only [List.length_append, List.length_cons, List.length_nil]; omega)) only [c9r0, c9r1, c9r2, c9r3, c9r4, c9r5, c9r6, c9r7, c9r8, c9r9, c9r10, c9r11, c9r12, c9r13, c9r14, c9r15, c9r16, c9r17, c9r18, c9l19, c9r20, hkn', s3.lend, s3.sort, e1, e2, e4, hb1, hb2, bT, bF, bF2, fillD, splice0, go_sem, ↓reduceIte, reduceCtorEq, Nat.reduceAdd, Nat.reduceSub, Nat.reducePow, Nat.reduceMul, Nat.reduceEqDiff, Nat.reduceLT, Nat.reduceLeDiff, Int.reduceToNat, Int.reduceLT, Int.reduceLE, Int.reduceEq, Int.reduceNeg, Int.reduceAdd, Int.reduceSub, Int.reduceMul]
              refine FinOk.all ⟨?_, .inl ⟨by rw [he]; simp, by rw [he]; rfl⟩⟩
              obtain ⟨L, rfl⟩ := EH
              exact ⟨L.set 0 _, by rw [List.set_append_right _ _ (Nat.le_refl _), Nat.sub_self]⟩
            · by_cases hneg : l.getD k 0 = -1
              · have hv := hneg
                have hge : ¬ (0 : Int) ≤ l.getD k 0 := by omega
                have hany := tab.any
                have hset := rowP_yes (l := l) (p := fun x => x == -1) hkn (by rw [hv]; rfl)
                have hW := (rowP_words l (fun x => x == -1) k).getD (k / 64)
                have hWl := rowP_length l (fun x => x == -1) k
                have hst := tab.step_any hkn hv
                rw [hset, u64s_set] at hst
                have hul := u64s_length (rowP l (fun x => x == -1) k)
                have q4 : (List.drop (k / 64) (u64s (rowP l (fun x => x == -1) k)))[0]? = some (.int .u64 (((rowP l (fun x => x == -1) k).getD (k / 64) 0 : Nat) : Int)) := by
                  rw [List.getElem?_drop, Nat.add_zero, u64s_get (by omega)]
                generalize rowP l (fun x => x == -1) k = W at *
                have a2 := or_u64 hW hp2
                simp (disch := first | omega | (simp only [List.length_append, List.length_cons, List.length_nil]; omega)) only [c9r0, c9r1, c9r2, c9r3, c9r4, c9r5, c9r6, c9r7, c9r8, c9r9, c9r10, c9r11, c9r12, c9r13, c9r14, c9r15, c9r16, c9r17, c9r18, c9l19, c9r20, hkn', s3.lend, s3.sort, e1, e2, e4, hb1, hb2, bT, hge, hany, g1, g2, a1, q4, a2, hul, hWl, e5, go_sem, ↓reduceIte, reduceCtorEq, Nat.reduceAdd, Nat.reduceSub, Nat.reducePow, Nat.reduceMul, Nat.reduceEqDiff, Nat.reduceLT, Nat.reduceLeDiff, Int.reduceToNat, Int.reduceLT, Int.reduceLE, Int.reduceEq, Int.reduceNeg, Int.reduceAdd, Int.reduceSub, Int.reduceMul]
                refine ⟨hkn, _, ks, hst, hmem.same fun n hn => by omega, hgood' (by omega), get_set_ne' (grow_ne hany bF (by simp)) bF, EH.setR (by omega), hksF, junk rfl⟩
              · obtain ⟨n, hv⟩ := Int.eq_ofNat_of_zero_le (by omega : 0 ≤ l.getD k 0)
                rw [hv] at e4 hb1 hb2
                have hge : (0 : Int) ≤ (n : Int) := by omega
                have me : mapEs Hp (.mref (h.length + 2)) = some (mapOf ks (qOf l)) := by simp [mapEs, tab.map]
                have hWl := rowP_length l (fun x => x == (n : Int)) k
                have hul := u64s_length (rowP l (fun x => x == (n : Int)) k)
                have hW := (rowP_words l (fun x => x == (n : Int)) k).getD (k / 64)
                have q4 : (List.drop (k / 64) (u64s (rowP l (fun x => x == (n : Int)) k)))[0]? = some (.int .u64 (((rowP l (fun x => x == (n : Int)) k).getD (k / 64) 0 : Nat) : Int)) := by
                  rw [List.getElem?_drop, Nat.add_zero, u64s_get (by omega)]
                have a2 := or_u64 hW hp2
                have hset := rowP_yes (l := l) (p := fun x => x == (n : Int)) hkn (by rw [hv]; simp)
                by_cases hnk : n ∈ ks.map (·.1)
                · obtain ⟨⟨n', r⟩, hm2, hnn⟩ := List.mem_map.1 hnk
                  simp only at hnn
                  subst hnn
                  have hr := tab.own _ hm2
                  obtain ⟨jj, hf⟩ := find_yes n' r (qOf l) ks 0 tab.keys hm2
                  have hst := tab.step_own hkn hm2 hv
                  rw [hset, u64s_set] at hst
                  simp only at hr
                  have hrF : h.length ≤ r := hksF _ hm2
                  generalize rowP l (fun x => x == (n' : Int)) k = W at *
                  simp (disch := first | omega | (simp only [List.length_append, List.length_cons, List.length_nil]; omega)) only [c9r0, c9r1, c9r2, c9r3, c9r4, c9r5, c9r6, c9r7, c9r8, c9r9, c9r10, c9r11, c9r12, c9r13, c9r14, c9r15, c9r16, c9r17, c9r18, c9l19, c9r20, hkn', s3.lend, s3.sort, e1, e2, e4, hb1, hb2, bT, hge, me, hf, hr, g1, g2, a1, q4, a2, hul, hWl, e5, go_sem, ↓reduceIte, reduceCtorEq, Nat.reduceAdd, Nat.reduceSub, Nat.reducePow, Nat.reduceMul, Nat.reduceEqDiff, Nat.reduceLT, Nat.reduceLeDiff, Int.reduceToNat, Int.reduceLT, Int.reduceLE, Int.reduceEq, Int.reduceNeg, Int.reduceAdd, Int.reduceSub, Int.reduceMul]
                  refine ⟨hkn, _, ks, hst, hmem.same fun n hn => ?_, hgood' (by omega), get_set_ne' (grow_ne hr bF (by simp)) bF, EH.setR hrF, hksF, junk rfl⟩
                  have : n = n' := by omega
                  rw [this]; exact hnk
                · have hf := find_no n (qOf l) ks 0 hnk
                  simp (disch := first | omega | (simp only [List.length_append, List.length_cons, List.length_nil]; omega)) only [c9r0, c9r1, c9r2, c9r3, c9r4, c9r5, c9r6, c9r7, c9r8, c9r9, c9r10, c9r11, c9r12, c9r13, c9r14, c9r15, c9r16, c9r17, c9r18, c9l19, c9r20, hkn', s3.lend, s3.sort, e1, e2, e4, hb1, hb2, bT, hge, me, hf, go_sem, ↓reduceIte, reduceCtorEq, Nat.reduceAdd, Nat.reduceSub, Nat.reducePow, Nat.reduceMul, Nat.reduceEqDiff, Nat.reduceLT, Nat.reduceLeDiff, Int.reduceToNat, Int.reduceLT, Int.reduceLE, Int.reduceEq, Int.reduceNeg, Int.reduceAdd, Int.reduceSub, Int.reduceMul]
                  refine xfc_of (newOwn_fc _ l.length (by omega)) ?_
                  rintro d h' ⟨rfl, rfl⟩
                  refine ⟨⟨_, rfl⟩, ?_⟩
                  have me2 : mapEs (Hp ++ [.grow 1 (u64s (List.replicate ((l.length + 63) / 64) 0)) ((l.length + 63) / 64)]) (.mref (h.length + 2)) = some (mapOf ks (qOf l)) := by
                    have : (Hp ++ [.grow 1 (u64s (List.replicate ((l.length + 63) / 64) 0)) ((l.length + 63) / 64)])[h.length + 2]? = some (.mapb (mapOf ks (qOf l))) := (Ext.app (Ext.refl Hp) _).get tab.map
                    simp [mapEs, this]
                  have hMlt := lt_of_get tab.map
                  have hz : ∀ i < k, ¬ l.getD i 0 = (n : Int) := fun i hi he => hnk ((hmem n).2 ⟨i, hi, he⟩)
                  have tab2 : TabAt (Hp.set (h.length + 2) (.mapb (mapOf ks (qOf l) ++ [(.int .i64 (n : Int), .own Hp.length ((l.length + 63) / 64))])) ++ [.grow 1 (u64s (List.replicate ((l.length + 63) / 64) 0)) ((l.length + 63) / 64)]) (h.length + 3) (h.length + 2) (h.length + 1) (ks ++ [(n, Hp.length)]) l most k := by
                    have := tab.add hnk hz
                    rw [show mapOf (ks ++ [(n, Hp.length)]) (qOf l) = mapOf ks (qOf l) ++ [(.int .i64 (n : Int), .own Hp.length (qOf l))] by simp [mapOf]] at this
                    exact this
                  have bF3 : (Hp.set (h.length + 2) (.mapb (mapOf ks (qOf l) ++ [(.int .i64 (n : Int), .own Hp.length ((l.length + 63) / 64))])) ++ [.grow 1 (u64s (List.replicate ((l.length + 63) / 64) 0)) ((l.length + 63) / 64)])[h.length]? = some (.box [.int .i64 0, .int .i64 0]) := (Ext.app (Ext.refl _) _).get (get_set_ne' (by omega) bF)
                  have EH3 : Ext h (Hp.set (h.length + 2) (.mapb (mapOf ks (qOf l) ++ [(.int .i64 (n : Int), .own Hp.length ((l.length + 63) / 64))])) ++ [.grow 1 (u64s (List.replicate ((l.length + 63) / 64) 0)) ((l.length + 63) / 64)]) := (EH.setR (by omega)).app _
                  simp (disch := first | omega | (simp only [List.length_append, List.length_cons, List.length_nil]; omega)) only [me2, hf, go_sem, ↓reduceIte, reduceCtorEq, Nat.reduceAdd, Nat.reduceSub, Nat.reducePow, Nat.reduceMul, Nat.reduceEqDiff, Nat.reduceLT, Nat.reduceLeDiff, Int.reduceToNat, Int.reduceLT, Int.reduceLE, Int.reduceEq, Int.reduceNeg, Int.reduceAdd, Int.reduceSub, Int.reduceMul]
                  generalize Hp.set (h.length + 2) (.mapb (mapOf ks (qOf l) ++ [(.int .i64 (n : Int), .own Hp.length ((l.length + 63) / 64))])) ++ [.grow 1 (u64s (List.replicate ((l.length + 63) / 64) 0)) ((l.length + 63) / 64)] = H2 at tab2 bF3 EH3 ⊢
                  have bT3 := tab2.box
                  have me3 : mapEs H2 (.mref (h.length + 2)) = some (mapOf (ks ++ [(n, Hp.length)]) (qOf l)) := by simp [mapEs, tab2.map]
                  have hm2 : (n, Hp.length) ∈ ks ++ [(n, Hp.length)] := by simp
                  have hr := tab2.own _ hm2
                  obtain ⟨jj, hf2⟩ := find_yes n Hp.length (qOf l) _ 0 tab2.keys hm2
                  have hst := tab2.step_own hkn hm2 hv
                  rw [hset, u64s_set] at hst
                  simp only at hr
                  have hrF : h.length ≤ Hp.length := by
                    obtain ⟨L, rfl⟩ := EH
                    simp
                  have hmem2 := hmem.add (r := Hp.length) hv
                  generalize rowP l (fun x => x == (n : Int)) k = W at *
                  generalize Hp.length = rn at *
                  simp (disch := first | omega | (simp only [List.length_append, List.length_cons, List.length_nil]; omega)) only [bT3, me3, hf2, hr, g1, g2, a1, q4, a2, hul, hWl, e5, go_sem, ↓reduceIte, reduceCtorEq, Nat.reduceAdd, Nat.reduceSub, Nat.reducePow, Nat.reduceMul, Nat.reduceEqDiff, Nat.reduceLT, Nat.reduceLeDiff, Int.reduceToNat, Int.reduceLT, Int.reduceLE, Int.reduceEq, Int.reduceNeg, Int.reduceAdd, Int.reduceSub, Int.reduceMul]
                  refine ⟨hkn, _, _, hst, hmem2, hgood' (by omega), get_set_ne' (grow_ne hr bF3 (by simp)) bF3, EH3.setR hrF, fun e he => ?_, junk rfl⟩
                  rcases List.mem_append.1 he with he | he
                  · exact hksF e he
                  · simp only [List.mem_singleton] at he
                    rw [he]; exact hrF
        · have hkn' : ¬ (k : Int) < l.length := by omega
          have : k = l.length := by omega
          subst this
          have he := chkF_good hm h2' hgood
          simp (disch := first | omega | (simp only [List.length_append, List.length_cons, List.length_nil]; omega)) only [c9r0, c9r1, c9r2, c9r3, c9r4, c9r5, c9r6, c9r7, c9r8, c9r9, c9r10, c9r11, c9r12, c9r13, c9r14, c9r15, c9r16, c9r17, c9r18, c9l19, c9r20, hkn', s3.lend, s3.sort, bF, bF2, fillD, splice0, go_sem, ↓reduceIte, reduceCtorEq, Nat.reduceAdd, Nat.reduceSub, Nat.reducePow, Nat.reduceMul, Nat.reduceEqDiff, Nat.reduceLT, Nat.reduceLeDiff, Int.reduceToNat, Int.reduceLT, Int.reduceLE, Int.reduceEq, Int.reduceNeg, Int.reduceAdd, Int.reduceSub, Int.reduceMul]
          rw [set_same' bF]
          exact FinOk.all ⟨EH, .inr ⟨he, hm, by omega, hgood, h.length + 3, rfl, _, _, ks, tab, hmem⟩⟩
end Go.Proofs
