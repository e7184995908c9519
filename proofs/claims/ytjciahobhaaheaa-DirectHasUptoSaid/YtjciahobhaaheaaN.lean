/-
  Own work. The law BitrowTexts.
-/
import Derived.Test.YtjciahobhaaheaaM
namespace Go.Proofs
open Go Go.Ytjciahobhaaheaa
set_option linter.unusedVariables false
set_option linter.unusedSimpArgs false
set_option maxRecDepth 10000

/-! ### weighbridge/weighbridgelaw18.BitrowTexts, params 3 -/
def c8r0 : List AStm := [.op (some 6) none (.mv (.c (.bool false)))]
def c8r1 : List AStm := [.op (some 14) none (.mv (.t 0)),
    .op (some 15) none (.len false (.t 14)),
    .op (some 16) none (.bin .gtr (.t 15) (.c (.int .i64 20))),
    .op (some 17) none (.mv (.t 16)),
    .op (some 18) (some (17, false)) (.mv (.t 2)),
    .op (some 19) (some (17, false)) (.len true (.t 18)),
    .op (some 20) (some (17, false)) (.bin .gtr (.t 19) (.c (.int .i64 300))),
    .op (some 21) none (.pick (.t 17) (.c (.bool true)) (.t 20))]
def c8r2 : List AStm := [.call (some 22) none (.c (.fn (.func 19) [] [])) [],
    .op (some 6) none (.mv (.t 22))]
def c8r3 : List AStm := [.op (some 24) none (.mv (.t 2)),
    .call (some 25) none (.c (.fn (.func 37) [] [])) [(.t 24)],
    .op (some 23) none (.mv (.t 25)),
    .op (some 26) none (.ext (.t 23) 0),
    .op (some 27) none (.ext (.t 23) 1),
    .op (some 8) none (.alloc [(.int .i64 0), (.int .i64 0)]),
    .op (some 7) none (.mv (.t 26)),
    .op none none (.store 2 (.t 8) (.t 27))]
def c8r4 : List AStm := [.op (some 29) none (.mv (.t 2)),
    .call (some 30) none (.c (.fn (.func 38) [] [])) [(.t 29)],
    .op (some 28) none (.mv (.t 30)),
    .op (some 31) none (.ext (.t 28) 0),
    .op (some 32) none (.ext (.t 28) 1),
    .op (some 10) none (.alloc [(.int .i64 0), (.int .i64 0)]),
    .op (some 9) none (.mv (.t 31)),
    .op none none (.store 2 (.t 10) (.t 32))]
def c8r5 : List AStm := [.op (some 33) none (.mv (.t 0)),
    .op (some 34) none (.mv (.t 1)),
    .call (some 35) none (.c (.fn (.func 39) [] [])) [(.t 33), (.t 34)],
    .op (some 11) none (.mv (.t 35))]
def c8r6 : List AStm := [.op (some 36) none (.mv (.t 7)),
    .op (some 37) none (.mv (.t 9)),
    .call (some 38) none (.c (.fn (.func 12) [] [])) [(.t 36), (.t 37)],
    .op (some 39) none (.un .not (.t 38)),
    .op (some 40) none (.mv (.t 39)),
    .op (some 41) (some (40, false)) (.load (some 2) (.t 8)),
    .op (some 42) (some (40, false)) (.load (some 2) (.t 10)),
    .op (some 43) (some (40, false)) (.eqa true [.ki, .ki] (.t 41) (.t 42)),
    .op (some 44) none (.pick (.t 40) (.c (.bool true)) (.t 43)),
    .op (some 45) none (.mv (.t 44)),
    .op (some 46) (some (45, false)) (.mv (.t 11)),
    .op (some 47) (some (45, false)) (.mv (.t 0)),
    .op (some 48) (some (45, false)) (.mv (.t 1)),
    .call (some 49) (some (45, false)) (.c (.fn (.func 40) [] [])) [(.t 47), (.t 48)],
    .op (some 50) (some (45, false)) (.bin .neq (.t 46) (.t 49)),
    .op (some 51) none (.pick (.t 45) (.c (.bool true)) (.t 50))]
def c8r7 : List AStm := [.op (some 6) none (.mv (.c (.bool false)))]
def c8r8 : List AStm := [.op (some 53) none (.mv (.t 0)),
    .op (some 54) none (.mv (.t 0)),
    .op (some 55) none (.len false (.t 54)),
    .op (some 56) none (.bin .mul (.c (.int .i64 64)) (.t 55)),
    .call (some 57) none (.c (.fn (.func 39) [] [])) [(.t 53), (.t 56)],
    .call (some 58) none (.c (.fn (.func 37) [] [])) [(.t 57)],
    .op (some 52) none (.mv (.t 58)),
    .op (some 59) none (.ext (.t 52) 0),
    .op (some 60) none (.ext (.t 52) 1),
    .op (some 13) none (.alloc [(.int .i64 0), (.int .i64 0)]),
    .op (some 12) none (.mv (.t 59)),
    .op none none (.store 2 (.t 13) (.t 60))]
def c8r9 : List AStm := [.call (some 61) none (.c (.fn (.func 19) [] [])) [],
    .op (some 62) none (.mv (.t 61)),
    .op (some 63) (some (62, true)) (.mv (.t 12)),
    .op (some 64) (some (62, true)) (.mv (.t 0)),
    .call (some 65) (some (62, true)) (.c (.fn (.func 12) [] [])) [(.t 63), (.t 64)],
    .op (some 66) none (.pick (.t 62) (.t 65) (.c (.bool false))),
    .op (some 67) none (.mv (.t 66)),
    .op (some 68) (some (67, true)) (.load (some 2) (.t 13)),
    .op (some 69) (some (67, true)) (.build [(.int .i64 0), (.int .i64 0)] []),
    .op (some 70) (some (67, true)) (.eqa false [.ki, .ki] (.t 68) (.t 69)),
    .op (some 71) none (.pick (.t 67) (.t 70) (.c (.bool false))),
    .op (some 72) none (.mv (.t 71)),
    .op (some 73) (some (72, true)) (.load (some 2) (.t 8)),
    .op (some 74) (some (72, true)) (.build [(.int .i64 0), (.int .i64 0)] []),
    .op (some 75) (some (72, true)) (.eqa true [.ki, .ki] (.t 73) (.t 74)),
    .op (some 76) (some (72, true)) (.mv (.t 75)),
    .op (some 77) (some (76, false)) (.mv (.t 7)),
    .op (some 78) (some (76, false)) (.mv (.t 2)),
    .op (some 79) (some (76, false)) (.len true (.t 78)),
    .call (some 80) (some (76, false)) (.c (.fn (.func 39) [] [])) [(.t 77), (.t 79)],
    .op (some 81) (some (76, false)) (.mv (.t 2)),
    .op (some 82) (some (76, false)) (.bin .eql (.t 80) (.t 81)),
    .op (some 83) (some (72, true)) (.pick (.t 76) (.c (.bool true)) (.t 82)),
    .op (some 84) none (.pick (.t 72) (.t 83) (.c (.bool false))),
    .op (some 85) none (.mv (.t 84)),
    .op (some 86) (some (85, true)) (.bslice 1 [(.int .u64 0)] 1 [(0, 1, (.c (.int .u64 5)))]),
    .call (some 87) (some (85, true)) (.c (.fn (.func 39) [] [])) [(.t 86), (.c (.int .i64 4))],
    .op (some 88) (some (85, true)) (.bin .eql (.t 87) (.c (.str (bs [49, 48, 49, 48])))),
    .op (some 89) none (.pick (.t 85) (.t 88) (.c (.bool false))),
    .op (some 6) none (.mv (.t 89))]
def c8 : CF := ⟨.seq (.reg c8r0) (.seq (.seq (.reg c8r1) (.cond (.t 21) (.seq (.reg c8r2) (.ret)) (.skip))) (.seq (.reg c8r3) (.seq (.reg c8r4) (.seq (.reg c8r5) (.seq (.seq (.reg c8r6) (.cond (.t 51) (.seq (.reg c8r7) (.ret)) (.skip))) (.seq (.reg c8r8) (.seq (.reg c8r9) (.ret)))))))), [.tmp 6], 90⟩
theorem cf8 : cfun Try.prog 8 = some c8 := by kernel_rfl



theorem digR_has (l : List UInt8) (j : Nat) : hasB (digR l) j = decide (j < l.length ∧ l.getD j 0 = 49) := by
  rw [digR, putL, putF_has j _ _ (by intro k hk; rw [List.length_replicate]; have := (onesT_mem.1 hk).1; omega), zero_has, Bool.false_or]
  exact decide_eq_decide.2 onesT_mem
theorem textB_get (ws : List Nat) (n j : Nat) (h : j < n) : (textB ws n).getD j 0 = digB ws j := by
  rw [List.getD_eq_getElem?_getD, textB, List.getElem?_map, List.getElem?_range h]; rfl
theorem digB_good (ws : List Nat) (j : Nat) : goodB (digB ws j) := by
  unfold digB goodB
  split
  · exact .inr rfl
  · exact .inl rfl
theorem textB_length (ws : List Nat) (n : Nat) : (textB ws n).length = n := by simp [textB]
theorem digR_text {ws : List Nat} (hw : Words ws) : digR (textB ws (64 * ws.length)) = ws := by
  have hl : (digR (textB ws (64 * ws.length))).length = ws.length := by
    rw [digR, putL_length, textB_length]; omega
  refine row_ext hl (putL_words _ _) hw fun j hj => ?_
  rw [hl] at hj
  rw [digR_has, textB_length, textB_get _ _ _ hj]
  unfold digB
  cases hasB ws j <;> simp [hj]
theorem text_dig {l : List UInt8} (h : ∀ j < l.length, goodB (l.getD j 0)) : textB (digR l) l.length = l := by
  apply List.ext_getElem (textB_length _ _)
  intro j h1 h2
  have e1 := textB_get (digR l) l.length j h2
  have e2 : l.getD j 0 = l[j] := by simp [List.getD_eq_getElem?_getD, List.getElem?_eq_getElem h2]
  have e3 : (textB (digR l) l.length).getD j 0 = (textB (digR l) l.length)[j] := by simp [List.getD_eq_getElem?_getD, List.getElem?_eq_getElem h1]
  rw [← e3, ← e2, e1]
  unfold digB
  rw [digR_has]
  rcases h j h2 with h48 | h49
  · rw [h48]; simp
  · rw [h49]; simp [h2]

/-- What a text's row is, and what is told. -/
def PSpec (l : List UInt8) (ws : List Nat) (e i : Int) : Prop :=
  (∃ k : Nat, k < l.length ∧ ¬ goodB (l.getD k 0) ∧ (∀ j < k, goodB (l.getD j 0)) ∧ ws = [] ∧ e = 3 ∧ i = (k : Int)) ∨ ((∀ j < l.length, goodB (l.getD j 0)) ∧ ws = digR l ∧ e = 0 ∧ i = 0)
theorem PSpec.one {l : List UInt8} {ws vs : List Nat} {e i e' i' : Int} (a : PSpec l ws e i) (b : PSpec l vs e' i') : ws = vs ∧ e = e' ∧ i = i' := by
  rcases a with ⟨k, k1, k2, k3, rfl, rfl, rfl⟩ | ⟨a1, rfl, rfl, rfl⟩ <;> rcases b with ⟨m, m1, m2, m3, rfl, rfl, rfl⟩ | ⟨b1, rfl, rfl, rfl⟩
  · have : k = m := by
      rcases Nat.lt_trichotomy k m with h | h | h
      · exact absurd (m3 k h) k2
      · exact h
      · exact absurd (k3 m h) m2
    subst this
    exact ⟨rfl, rfl, rfl⟩
  · exact absurd (b1 k k1) k2
  · exact absurd (a1 m m1) m2
  · exact ⟨rfl, rfl, rfl⟩
theorem PSpec.words {l : List UInt8} {ws : List Nat} {e i : Int} (a : PSpec l ws e i) : Words ws ∧ ws.length ≤ l.length + 64 := by
  rcases a with ⟨k, k1, k2, k3, rfl, rfl, rfl⟩ | ⟨a1, rfl, rfl, rfl⟩
  · exact ⟨by simp [Words], by simp⟩
  · exact ⟨putL_words _ _, by rw [digR, putL_length]; omega⟩
theorem PRes.spec {l : List UInt8} {h h' : Heap} {d : D} (p : PRes l h d h') : Ext h h' ∧ ∃ r ws e i, d = .tup [r, .agg [.int .i64 e, .int .i64 i]] ∧ RowOf h' r ws ∧ PSpec l ws e i := by
  obtain ⟨E, ⟨k, k1, k2, k3, rfl⟩ | ⟨a1, r, rfl, s⟩⟩ := p
  · exact ⟨E, .nils, [], 3, k, rfl, nils_of _ _, .inl ⟨k, k1, k2, k3, rfl, rfl, rfl⟩⟩
  · exact ⟨E, r, digR l, 0, 0, rfl, s, .inr ⟨a1, rfl, rfl, rfl⟩⟩
theorem Ext.get {h h' : Heap} {r : Nat} {b : Blk} (e : Ext h h') (g : h[r]? = some b) : h'[r]? = some b := by
  obtain ⟨L, rfl⟩ := e
  rw [List.getElem?_append_left (lt_of_get g)]; exact g

theorem texts_fc (h : Heap) (row : D) (ws : List Nat) (n : Int) (l : List UInt8) (s : RowOf h row ws) (hlen : ws.length ≤ 1048576) (hw : Words ws) (hl : l.length ≤ 1048576)
    (h0 : -9223372036854775808 ≤ n) (h1 : n < 9223372036854775808) :
    FC Try.prog 8 [row, .int .i64 n, .str (bs l)] h fun d h' => d = .bool true ∧ h' = h := by
  have k1 := SlOf.lend s
  have k2 := SlOf.sort s
  refine FC.goes cf8 ?_; simp only [c8]; simp only [List.length_cons, List.length_nil, Nat.reduceAdd, Nat.reduceSub, List.replicate_succ, List.replicate_zero, List.cons_append, List.nil_append]
  by_cases hg1 : (20 : Int) < ws.length
  · simp (disch := first | omega | (simp only [List.length_append, List.length_cons, List.length_nil]; omega)) only [c8r0, c8r1, c8r2, c8r3, c8r4, c8r5, c8r6, c8r7, c8r8, c8r9, k1, k2, hg1, go_sem, ↓reduceIte, reduceCtorEq, Nat.reduceAdd, Nat.reduceSub, Nat.reducePow, Nat.reduceMul, Nat.reduceEqDiff, Nat.reduceLT, Nat.reduceLeDiff, Int.reduceToNat, Int.reduceLT, Int.reduceLE, Int.reduceEq, Int.reduceNeg, Int.reduceAdd, Int.reduceSub, Int.reduceMul]
    refine gfc_of (live18 _) ?_
    rintro d h' ⟨rfl, e⟩
    rw [e]
    simp (disch := first | omega | (simp only [List.length_append, List.length_cons, List.length_nil]; omega)) only [go_sem, ↓reduceIte, reduceCtorEq, Nat.reduceAdd, Nat.reduceSub, Nat.reducePow, Nat.reduceMul, Nat.reduceEqDiff, Nat.reduceLT, Nat.reduceLeDiff, Int.reduceToNat, Int.reduceLT, Int.reduceLE, Int.reduceEq, Int.reduceNeg, Int.reduceAdd, Int.reduceSub, Int.reduceMul]
    exact FinOk.all ⟨rfl, rfl⟩
  · by_cases hg2 : (300 : Int) < l.length
    · simp (disch := first | omega | (simp only [List.length_append, List.length_cons, List.length_nil]; omega)) only [c8r0, c8r1, c8r2, c8r3, c8r4, c8r5, c8r6, c8r7, c8r8, c8r9, k1, k2, hg1, hg2, go_sem, ↓reduceIte, reduceCtorEq, Nat.reduceAdd, Nat.reduceSub, Nat.reducePow, Nat.reduceMul, Nat.reduceEqDiff, Nat.reduceLT, Nat.reduceLeDiff, Int.reduceToNat, Int.reduceLT, Int.reduceLE, Int.reduceEq, Int.reduceNeg, Int.reduceAdd, Int.reduceSub, Int.reduceMul]
      refine gfc_of (live18 _) ?_
      rintro d h' ⟨rfl, e⟩
      rw [e]
      simp (disch := first | omega | (simp only [List.length_append, List.length_cons, List.length_nil]; omega)) only [go_sem, ↓reduceIte, reduceCtorEq, Nat.reduceAdd, Nat.reduceSub, Nat.reducePow, Nat.reduceMul, Nat.reduceEqDiff, Nat.reduceLT, Nat.reduceLeDiff, Int.reduceToNat, Int.reduceLT, Int.reduceLE, Int.reduceEq, Int.reduceNeg, Int.reduceAdd, Int.reduceSub, Int.reduceMul]
      exact FinOk.all ⟨rfl, rfl⟩
    · simp (disch := first | omega | (simp only [List.length_append, List.length_cons, List.length_nil]; omega)) only [c8r0, c8r1, c8r2, c8r3, c8r4, c8r5, c8r6, c8r7, c8r8, c8r9, k1, k2, hg1, hg2, go_sem, ↓reduceIte, reduceCtorEq, Nat.reduceAdd, Nat.reduceSub, Nat.reducePow, Nat.reduceMul, Nat.reduceEqDiff, Nat.reduceLT, Nat.reduceLeDiff, Int.reduceToNat, Int.reduceLT, Int.reduceLE, Int.reduceEq, Int.reduceNeg, Int.reduceAdd, Int.reduceSub, Int.reduceMul]
      refine gfc_of (parse_fc _ l (by omega)) ?_
      intro d h2 hp
      obtain ⟨E2, xa, wa, ea, ia, rfl, sa, pa⟩ := hp.spec
      obtain ⟨oa1, oa2, oa3⟩ := one_sl (SlOf.sort sa)
      simp (disch := first | omega | (simp only [List.length_append, List.length_cons, List.length_nil]; omega)) only [fillD, splice0, go_sem, ↓reduceIte, reduceCtorEq, Nat.reduceAdd, Nat.reduceSub, Nat.reducePow, Nat.reduceMul, Nat.reduceEqDiff, Nat.reduceLT, Nat.reduceLeDiff, Int.reduceToNat, Int.reduceLT, Int.reduceLE, Int.reduceEq, Int.reduceNeg, Int.reduceAdd, Int.reduceSub, Int.reduceMul]
      refine gfc_of (parseRef_fc _ l (by omega)) ?_
      intro d h3 hp
      obtain ⟨E3, xb, wb, eb, ib, rfl, sb, pb⟩ := hp.spec
      obtain ⟨rfl, rfl, rfl⟩ := pa.one pb
      have B8 := E3.get (last_get h2 (.box [.int .i64 ea, .int .i64 ia]))
      have s := (s.ext E2).ext ((Ext.app (Ext.refl _) _).trans E3)
      have sa := sa.ext ((Ext.app (Ext.refl _) _).trans E3)
      have F3 : Ext h h3 := E2.trans ((Ext.app (Ext.refl _) _).trans E3)
      simp (disch := first | omega | (simp only [List.length_append, List.length_cons, List.length_nil]; omega)) only [fillD, splice0, go_sem, ↓reduceIte, reduceCtorEq, Nat.reduceAdd, Nat.reduceSub, Nat.reducePow, Nat.reduceMul, Nat.reduceEqDiff, Nat.reduceLT, Nat.reduceLeDiff, Int.reduceToNat, Int.reduceLT, Int.reduceLE, Int.reduceEq, Int.reduceNeg, Int.reduceAdd, Int.reduceSub, Int.reduceMul]
      have s := s.ext (Ext.app (Ext.refl _) [.box [.int .i64 ea, .int .i64 ia]])
      have sa := sa.ext (Ext.app (Ext.refl _) [.box [.int .i64 ea, .int .i64 ia]])
      have sb := sb.ext (Ext.app (Ext.refl _) [.box [.int .i64 ea, .int .i64 ia]])
      have B8 := (Ext.app (Ext.refl h3) [.box [.int .i64 ea, .int .i64 ia]]).get B8
      have B10 := last_get h3 (.box [.int .i64 ea, .int .i64 ia])
      have F4 : Ext h (h3 ++ [.box [.int .i64 ea, .int .i64 ia]]) := F3.app _
      generalize h3 ++ [.box [.int .i64 ea, .int .i64 ia]] = h4 at *
      refine gfc_of (text_fc _ row ws s hw n h0 h1) ?_
      rintro d h' ⟨rfl, e⟩
      rw [e]
      simp (disch := first | omega | (simp only [List.length_append, List.length_cons, List.length_nil]; omega)) only [go_sem, ↓reduceIte, reduceCtorEq, Nat.reduceAdd, Nat.reduceSub, Nat.reducePow, Nat.reduceMul, Nat.reduceEqDiff, Nat.reduceLT, Nat.reduceLeDiff, Int.reduceToNat, Int.reduceLT, Int.reduceLE, Int.reduceEq, Int.reduceNeg, Int.reduceAdd, Int.reduceSub, Int.reduceMul]
      obtain ⟨wwa, wla⟩ := pa.words
      refine gfc_of (same_fc _ xa xb wa wa sa sb (by omega) (by omega)) ?_
      rintro d h' ⟨rfl, e⟩
      rw [e]
      simp (disch := first | omega | (simp only [List.length_append, List.length_cons, List.length_nil]; omega)) only [B8, B10, go_sem, ↓reduceIte, reduceCtorEq, Nat.reduceAdd, Nat.reduceSub, Nat.reducePow, Nat.reduceMul, Nat.reduceEqDiff, Nat.reduceLT, Nat.reduceLeDiff, Int.reduceToNat, Int.reduceLT, Int.reduceLE, Int.reduceEq, Int.reduceNeg, Int.reduceAdd, Int.reduceSub, Int.reduceMul]
      refine gfc_of (textRef_fc _ row ws s hlen hw n h0 h1) ?_
      rintro d h' ⟨rfl, e⟩
      rw [e]
      have k1 := SlOf.lend s
      have k2 := SlOf.sort s
      have e1 : IntKind.i64.wrap (64 * (ws.length : Int)) = ((64 * ws.length : Nat) : Int) := by rw [w_i64 (by omega) (by omega)]; omega
      simp (disch := first | omega | (simp only [List.length_append, List.length_cons, List.length_nil]; omega)) only [k1, k2, e1, go_sem, ↓reduceIte, reduceCtorEq, Nat.reduceAdd, Nat.reduceSub, Nat.reducePow, Nat.reduceMul, Nat.reduceEqDiff, Nat.reduceLT, Nat.reduceLeDiff, Int.reduceToNat, Int.reduceLT, Int.reduceLE, Int.reduceEq, Int.reduceNeg, Int.reduceAdd, Int.reduceSub, Int.reduceMul]
      refine gfc_of (text_fc _ row ws s hw ((64 * ws.length : Nat) : Int) (by omega) (by omega)) ?_
      rintro d h' ⟨rfl, e⟩
      rw [e]
      have et : textR ws ((64 * ws.length : Nat) : Int) = textB ws (64 * ws.length) := by
        unfold textR
        rw [if_neg (by omega)]; rfl
      rw [et]
      simp (disch := first | omega | (simp only [List.length_append, List.length_cons, List.length_nil]; omega)) only [go_sem, ↓reduceIte, reduceCtorEq, Nat.reduceAdd, Nat.reduceSub, Nat.reducePow, Nat.reduceMul, Nat.reduceEqDiff, Nat.reduceLT, Nat.reduceLeDiff, Int.reduceToNat, Int.reduceLT, Int.reduceLE, Int.reduceEq, Int.reduceNeg, Int.reduceAdd, Int.reduceSub, Int.reduceMul]
      refine gfc_of (parse_fc _ (textB ws (64 * ws.length)) (by rw [textB_length]; omega)) ?_
      intro d h5 hp
      obtain ⟨E5, xc, wc, ec, ic, rfl, sc, pc⟩ := hp.spec
      have pc' : PSpec (textB ws (64 * ws.length)) ws 0 0 := by
        refine .inr ⟨fun j hj => ?_, (digR_text hw).symm, rfl, rfl⟩
        rw [textB_length] at hj
        rw [textB_get _ _ _ hj]
        exact digB_good _ _
      obtain ⟨rfl, rfl, rfl⟩ := pc.one pc'
      obtain ⟨oc1, oc2, oc3⟩ := one_sl (SlOf.sort sc)
      simp (disch := first | omega | (simp only [List.length_append, List.length_cons, List.length_nil]; omega)) only [fillD, splice0, go_sem, ↓reduceIte, reduceCtorEq, Nat.reduceAdd, Nat.reduceSub, Nat.reducePow, Nat.reduceMul, Nat.reduceEqDiff, Nat.reduceLT, Nat.reduceLeDiff, Int.reduceToNat, Int.reduceLT, Int.reduceLE, Int.reduceEq, Int.reduceNeg, Int.reduceAdd, Int.reduceSub, Int.reduceMul]
      have F5 : Ext h4 (h5 ++ [.box [.int .i64 0, .int .i64 0]]) := E5.app _
      have s := s.ext F5
      have sa := sa.ext F5
      have sc := sc.ext (Ext.app (Ext.refl _) [.box [.int .i64 0, .int .i64 0]])
      have B8 := F5.get B8
      have B13 := last_get h5 (.box [.int .i64 0, .int .i64 0])
      have F6 := F4.trans F5
      generalize h5 ++ [.box [.int .i64 0, .int .i64 0]] = h6 at *
      refine gfc_of (live18 _) ?_
      rintro d h' ⟨rfl, e⟩
      rw [e]
      simp (disch := first | omega | (simp only [List.length_append, List.length_cons, List.length_nil]; omega)) only [go_sem, ↓reduceIte, reduceCtorEq, Nat.reduceAdd, Nat.reduceSub, Nat.reducePow, Nat.reduceMul, Nat.reduceEqDiff, Nat.reduceLT, Nat.reduceLeDiff, Int.reduceToNat, Int.reduceLT, Int.reduceLE, Int.reduceEq, Int.reduceNeg, Int.reduceAdd, Int.reduceSub, Int.reduceMul]
      refine gfc_of (same_fc _ xc row _ _ sc s (by omega) (by omega)) ?_
      rintro d h' ⟨rfl, e⟩
      rw [e]
      have n5 : textR [5] 4 = [49, 48, 49, 48] := by decide
      rcases pa with ⟨k, p1, p2, p3, rfl, rfl, rfl⟩ | ⟨p1, rfl, rfl, rfl⟩
      · have b30 : ((3 : Int) == 0) = false := rfl
        simp (disch := first | omega | (simp only [List.length_append, List.length_cons, List.length_nil]; omega)) only [B8, B13, fillD, splice0, b30, Bool.false_and, go_sem, ↓reduceIte, reduceCtorEq, Nat.reduceAdd, Nat.reduceSub, Nat.reducePow, Nat.reduceMul, Nat.reduceEqDiff, Nat.reduceLT, Nat.reduceLeDiff, Int.reduceToNat, Int.reduceLT, Int.reduceLE, Int.reduceEq, Int.reduceNeg, Int.reduceAdd, Int.reduceSub, Int.reduceMul]
        refine gfc_of (text_fc _ (.own h6.length 1) [5] (own_of (last_get _ _) (by simp [u64s])) (by simp [Words]) 4 (by omega) (by omega)) ?_
        rintro d h' ⟨rfl, e⟩
        rw [e, n5]
        simp (disch := first | omega | (simp only [List.length_append, List.length_cons, List.length_nil]; omega)) only [go_sem, ↓reduceIte, reduceCtorEq, Nat.reduceAdd, Nat.reduceSub, Nat.reducePow, Nat.reduceMul, Nat.reduceEqDiff, Nat.reduceLT, Nat.reduceLeDiff, Int.reduceToNat, Int.reduceLT, Int.reduceLE, Int.reduceEq, Int.reduceNeg, Int.reduceAdd, Int.reduceSub, Int.reduceMul]
        exact fin_ext (F6.app _) rfl ⟨rfl, rfl⟩
      · simp (disch := first | omega | (simp only [List.length_append, List.length_cons, List.length_nil]; omega)) only [B8, B13, fillD, splice0, go_sem, ↓reduceIte, reduceCtorEq, Nat.reduceAdd, Nat.reduceSub, Nat.reducePow, Nat.reduceMul, Nat.reduceEqDiff, Nat.reduceLT, Nat.reduceLeDiff, Int.reduceToNat, Int.reduceLT, Int.reduceLE, Int.reduceEq, Int.reduceNeg, Int.reduceAdd, Int.reduceSub, Int.reduceMul]
        refine gfc_of (text_fc _ xa _ sa (putL_words _ _) (l.length : Int) (by omega) (by omega)) ?_
        rintro d h' ⟨rfl, e⟩
        have et : textR (digR l) (l.length : Int) = l := by
          unfold textR
          rw [if_neg (by omega)]; exact text_dig p1
        rw [e, et]
        simp (disch := first | omega | (simp only [List.length_append, List.length_cons, List.length_nil]; omega)) only [fillD, splice0, go_sem, ↓reduceIte, reduceCtorEq, Nat.reduceAdd, Nat.reduceSub, Nat.reducePow, Nat.reduceMul, Nat.reduceEqDiff, Nat.reduceLT, Nat.reduceLeDiff, Int.reduceToNat, Int.reduceLT, Int.reduceLE, Int.reduceEq, Int.reduceNeg, Int.reduceAdd, Int.reduceSub, Int.reduceMul]
        refine gfc_of (text_fc _ (.own h6.length 1) [5] (own_of (last_get _ _) (by simp [u64s])) (by simp [Words]) 4 (by omega) (by omega)) ?_
        rintro d h' ⟨rfl, e⟩
        rw [e, n5]
        simp (disch := first | omega | (simp only [List.length_append, List.length_cons, List.length_nil]; omega)) only [go_sem, ↓reduceIte, reduceCtorEq, Nat.reduceAdd, Nat.reduceSub, Nat.reducePow, Nat.reduceMul, Nat.reduceEqDiff, Nat.reduceLT, Nat.reduceLeDiff, Int.reduceToNat, Int.reduceLT, Int.reduceLE, Int.reduceEq, Int.reduceNeg, Int.reduceAdd, Int.reduceSub, Int.reduceMul]
        exact fin_ext (F6.app _) rfl ⟨rfl, rfl⟩

theorem texts_law (h : Heap) (x0 : (Sh.sl (.int .u64)).T) (ok0 : (Sh.sl (.int .u64)).ok x0) (x1 : (Sh.int .i64).T) (ok1 : (Sh.int .i64).ok x1) (x2 : Sh.str.T) (ok2 : Sh.str.ok x2)
    (hv : (Sh.sl (.int .u64)).vol x0 + (Sh.int .i64).vol x1 + Sh.str.vol x2 ≤ 1048576)
    (D0 : D) (en0 : (Sh.sl (.int .u64)).EncV x0 D0) (D1 : D) (en1 : (Sh.int .i64).EncV x1 D1) (D2 : D) (en2 : Sh.str.EncV x2 D2) : FC Try.prog 8 [D0, D1, D2] h fun d h' => d = .bool true ∧ h' = h := by
  simp only [Sh.EncV] at en1 en2
  subst en1
  subst en2
  obtain ⟨ws, w1, w2, w3, w4⟩ := row_open ok0 en0
  have g1 := ok_i64 ok1
  have g2 : Sh.str.vol x2 = (x2 : List UInt8).length + 1 := rfl
  exact texts_fc h D0 ws x1 x2 (w4 h) (by omega) w1 (by omega) g1.1 (by omega)
end Go.Proofs
