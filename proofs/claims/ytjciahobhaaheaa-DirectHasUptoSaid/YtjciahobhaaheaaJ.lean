/-
  Own work. What must be whatever is asked: the walk of live of layer 18.
-/
import Derived.Test.YtjciahobhaaheaaI
namespace Go.Proofs
open Go Go.Ytjciahobhaaheaa
set_option linter.unusedVariables false
set_option linter.unusedSimpArgs false
set_option maxRecDepth 10000

/-! ### weighbridge/weighbridgelaw18.live, params 0 -/
def c19r0 : List AStm := [.op (some 0) none (.mv (.c (.bool false)))]
def c19r1 : List AStm := [.call (some 3) none (.c (.fn (.func 21) [] [])) [(.c (.int .i64 70))],
    .call (some 4) none (.c (.fn (.func 20) [] [])) [(.t 3), (.c (.int .i64 69))],
    .call (some 5) none (.c (.fn (.func 20) [] [])) [(.t 4), (.c (.int .i64 3))],
    .op (some 1) none (.mv (.t 5))]
def c19r2 : List AStm := [.call (some 6) none (.c (.fn (.func 23) [] [])) [(.c (.int .i64 66))],
    .op (some 2) none (.mv (.t 6))]
def c19r3 : List AStm := [.op (some 7) none (.mv (.t 1)),
    .op (some 8) none (.len false (.t 7)),
    .op (some 9) none (.bin .eql (.t 8) (.c (.int .i64 2))),
    .op (some 10) none (.mv (.t 9)),
    .op (some 11) (some (10, true)) (.mv (.t 1)),
    .op (some 12) (some (10, true)) (.ixs 1 (.t 11) (.c (.int .i64 0))),
    .op (some 13) (some (10, true)) (.load none (.t 12)),
    .op (some 14) (some (10, true)) (.bin .eql (.t 13) (.c (.int .u64 8))),
    .op (some 15) none (.pick (.t 10) (.t 14) (.c (.bool false))),
    .op (some 16) none (.mv (.t 15)),
    .op (some 17) (some (16, true)) (.mv (.t 1)),
    .op (some 18) (some (16, true)) (.ixs 1 (.t 17) (.c (.int .i64 1))),
    .op (some 19) (some (16, true)) (.load none (.t 18)),
    .op (some 20) (some (16, true)) (.bin .eql (.t 19) (.c (.int .u64 32))),
    .op (some 21) none (.pick (.t 16) (.t 20) (.c (.bool false))),
    .op (some 22) none (.mv (.t 21)),
    .op (some 23) (some (22, true)) (.mv (.t 2)),
    .op (some 24) (some (22, true)) (.len false (.t 23)),
    .op (some 25) (some (22, true)) (.bin .eql (.t 24) (.c (.int .i64 2))),
    .op (some 26) none (.pick (.t 22) (.t 25) (.c (.bool false))),
    .op (some 27) none (.mv (.t 26)),
    .op (some 28) (some (27, true)) (.mv (.t 2)),
    .op (some 29) (some (27, true)) (.ixs 1 (.t 28) (.c (.int .i64 1))),
    .op (some 30) (some (27, true)) (.load none (.t 29)),
    .op (some 31) (some (27, true)) (.bin .eql (.t 30) (.c (.int .u64 3))),
    .op (some 32) none (.pick (.t 27) (.t 31) (.c (.bool false))),
    .op (some 33) none (.mv (.t 32)),
    .op (some 34) (some (33, true)) (.mv (.t 1)),
    .call (some 35) (some (33, true)) (.c (.fn (.func 18) [] [])) [(.t 34), (.c (.int .i64 69))],
    .op (some 36) none (.pick (.t 33) (.t 35) (.c (.bool false))),
    .op (some 37) none (.mv (.t 36)),
    .op (some 38) (some (37, true)) (.mv (.t 1)),
    .call (some 39) (some (37, true)) (.c (.fn (.func 18) [] [])) [(.t 38), (.c (.int .i64 70))],
    .op (some 40) (some (37, true)) (.un .not (.t 39)),
    .op (some 41) none (.pick (.t 37) (.t 40) (.c (.bool false))),
    .op (some 42) none (.mv (.t 41)),
    .op (some 43) (some (42, true)) (.mv (.t 1)),
    .call (some 44) (some (42, true)) (.c (.fn (.func 18) [] [])) [(.t 43), (.c (.int .i64 (-1)))],
    .op (some 45) (some (42, true)) (.un .not (.t 44)),
    .op (some 46) none (.pick (.t 42) (.t 45) (.c (.bool false))),
    .op (some 47) none (.mv (.t 46)),
    .op (some 48) (some (47, true)) (.mv (.t 1)),
    .op (some 49) (some (47, true)) (.mv (.t 2)),
    .op (some 50) (some (47, true)) (.bslice 1 [.nils, .nils] 2 [(0, 1, (.t 48)), (1, 1, (.t 49))]),
    .call (some 51) (some (47, true)) (.c (.fn (.func 33) [] [])) [(.t 50)],
    .call (some 52) (some (47, true)) (.c (.fn (.func 27) [] [])) [(.t 51)],
    .op (some 53) (some (47, true)) (.bin .eql (.t 52) (.c (.int .i64 3))),
    .op (some 54) none (.pick (.t 47) (.t 53) (.c (.bool false))),
    .op (some 55) none (.mv (.t 54)),
    .op (some 56) (some (55, true)) (.mv (.t 1)),
    .op (some 57) (some (55, true)) (.mv (.t 2)),
    .op (some 58) (some (55, true)) (.bslice 1 [.nils, .nils] 2 [(0, 1, (.t 56)), (1, 1, (.t 57))]),
    .call (some 59) (some (55, true)) (.c (.fn (.func 35) [] [])) [(.t 58)],
    .call (some 60) (some (55, true)) (.c (.fn (.func 32) [] [])) [(.t 59)],
    .op (some 61) (some (55, true)) (.bin .eql (.t 60) (.c (.int .i64 67))),
    .op (some 62) none (.pick (.t 55) (.t 61) (.c (.bool false))),
    .op (some 63) none (.mv (.t 62)),
    .op (some 64) (some (63, true)) (.mv (.t 1)),
    .call (some 65) (some (63, true)) (.c (.fn (.func 30) [] [])) [(.t 64)],
    .op (some 66) (some (63, true)) (.bslice 1 [(.int .i64 0), (.int .i64 0)] 2 [(0, 1, (.c (.int .i64 3))), (1, 1, (.c (.int .i64 69)))]),
    .call (some 67) (some (63, true)) (.c (.fn (.func 29) [] [])) [(.t 65), (.t 66)],
    .op (some 68) none (.pick (.t 63) (.t 67) (.c (.bool false))),
    .op (some 69) none (.mv (.t 68)),
    .call (some 70) (some (69, true)) (.c (.fn (.func 27) [] [])) [(.c .nils)],
    .op (some 71) (some (69, true)) (.bin .eql (.t 70) (.c (.int .i64 (-1)))),
    .op (some 72) none (.pick (.t 69) (.t 71) (.c (.bool false))),
    .op (some 73) none (.mv (.t 72)),
    .call (some 74) (some (73, true)) (.c (.fn (.func 21) [] [])) [(.c (.int .i64 65537))],
    .op (some 75) (some (73, true)) (.len false (.t 74)),
    .op (some 76) (some (73, true)) (.bin .eql (.t 75) (.c (.int .i64 0))),
    .op (some 77) none (.pick (.t 73) (.t 76) (.c (.bool false))),
    .op (some 78) none (.mv (.t 77)),
    .call (some 79) (some (78, true)) (.c (.fn (.func 33) [] [])) [(.c .nils)],
    .op (some 80) (some (78, true)) (.len false (.t 79)),
    .op (some 81) (some (78, true)) (.bin .eql (.t 80) (.c (.int .i64 0))),
    .op (some 82) none (.pick (.t 78) (.t 81) (.c (.bool false))),
    .op (some 83) none (.mv (.t 82)),
    .op (some 84) (some (83, true)) (.mv (.t 1)),
    .op (some 85) (some (83, true)) (.mv (.t 2)),
    .op (some 86) (some (83, true)) (.slc 1 (.t 85) none (some (.c (.int .i64 1)))),
    .op (some 87) (some (83, true)) (.bslice 1 [.nils, .nils] 2 [(0, 1, (.t 84)), (1, 1, (.t 86))]),
    .call (some 88) (some (83, true)) (.c (.fn (.func 33) [] [])) [(.t 87)],
    .op (some 89) (some (83, true)) (.len false (.t 88)),
    .op (some 90) (some (83, true)) (.bin .eql (.t 89) (.c (.int .i64 1))),
    .op (some 91) none (.pick (.t 83) (.t 90) (.c (.bool false))),
    .op (some 0) none (.mv (.t 91))]
def c19 : CF := ⟨.seq (.reg c19r0) (.seq (.reg c19r1) (.seq (.reg c19r2) (.seq (.reg c19r3) (.ret)))), [.tmp 0], 92⟩
theorem cf19 : cfun Try.prog 19 = some c19 := by kernel_rfl



/-- A heap that has more behind it. -/
def Ext (h h' : Heap) : Prop := ∃ L, h' = h ++ L
theorem Ext.refl (h : Heap) : Ext h h := ⟨[], (List.append_nil h).symm⟩
theorem Ext.trans {h h' h'' : Heap} (a : Ext h h') (b : Ext h' h'') : Ext h h'' := by
  obtain ⟨L, rfl⟩ := a
  obtain ⟨M, rfl⟩ := b
  exact ⟨L ++ M, List.append_assoc _ _ _⟩
theorem Ext.app {h h' : Heap} (a : Ext h h') (L : Heap) : Ext h (h' ++ L) := a.trans ⟨L, rfl⟩
theorem SlOf.ext {h h' : Heap} {sz : Nat} {d : D} {cs : List D} {n : Nat} (s : SlOf h sz d cs n) (e : Ext h h') : SlOf h' sz d cs n := by
  obtain ⟨L, rfl⟩ := e
  exact s.low L
theorem RowsOf.ext {h h' : Heap} {d : D} {rs : List (List Nat)} (s : RowsOf h d rs) (e : Ext h h') : RowsOf h' d rs := by
  obtain ⟨L, rfl⟩ := e
  exact s.low L
theorem fin_ext {h h' : Heap} {d : D} {R : D → Heap → Prop} (e : Ext h h') (hu : underL h.length [d] = true) (hr : R d h) : FinOk h h' [d] R := by
  obtain ⟨L, rfl⟩ := e
  exact FinOk.drop (.inl rfl) hu hr
/-- A row, and its words. -/
def RowOf (h : Heap) (d : D) (ws : List Nat) : Prop := SlOf h 1 d (u64s ws) ws.length
theorem RowOf.ext {h h' : Heap} {d : D} {ws : List Nat} (s : RowOf h d ws) (e : Ext h h') : RowOf h' d ws := SlOf.ext s e
def Made (h : Heap) (ws : List Nat) (d : D) (h' : Heap) : Prop := Ext h h' ∧ RowOf h' d ws
theorem NewSl.ext {h h' : Heap} {cs : List D} {n : Nat} {d : D} (hn : NewSl h cs n d h') : Ext h h' := by
  rcases hn with ⟨_, _, _, rfl⟩ | ⟨_, rfl⟩
  · exact Ext.refl _
  · exact ⟨_, rfl⟩
theorem NewSl.made {h h' : Heap} {ws : List Nat} {d : D} {n : Nat} (hn : NewSl h (u64s ws) n d h') (hl : n = ws.length) : Made h ws d h' := by
  subst hl
  exact ⟨hn.ext, hn.sl (u64s_length ws)⟩
theorem new_md (h : Heap) (n : Int) (h0 : -9223372036854775808 ≤ n) (h1 : n < 9223372036854775808) : FC Try.prog 21 [.int .i64 n] h (Made h (newR n)) :=
  (new_fc h n h0 h1).mono fun d h' hn => hn.made rfl
theorem newRef_md (h : Heap) (n : Int) (h0 : -9223372036854775808 ≤ n) (h1 : n < 9223372036854775808) : FC Try.prog 22 [.int .i64 n] h (Made h (newR n)) :=
  (newRef_fc h n h0 h1).mono fun d h' hn => hn.made rfl
theorem all_md (h : Heap) (n : Int) (h0 : -9223372036854775808 ≤ n) (h1 : n < 9223372036854775808) : FC Try.prog 23 [.int .i64 n] h (Made h (allR n)) :=
  (all_fc h n h0 h1).mono fun d h' hn => hn.made (allR_length n).symm
theorem allRef_md (h : Heap) (n : Int) (h0 : -9223372036854775808 ≤ n) (h1 : n < 9223372036854775808) : FC Try.prog 24 [.int .i64 n] h (Made h (allR n)) :=
  (allRef_fc h n h0 h1).mono fun d h' ⟨L, e, s⟩ => ⟨⟨L, e⟩, s⟩
theorem set_md (h : Heap) (row : D) (ws : List Nat) (s : RowOf h row ws) (hlen : ws.length ≤ 1048576) (hw : Words ws) (i : Int) (h0 : -9223372036854775808 ≤ i) (h1 : i < 9223372036854775808) : FC Try.prog 20 [row, .int .i64 i] h (Made h (setR ws i)) :=
  (set_fc h row ws s hlen hw i h0 h1).mono fun d h' hn => hn.made (setR_length ws i).symm
theorem setRef_md (h : Heap) (row : D) (ws : List Nat) (s : RowOf h row ws) (hlen : ws.length ≤ 1048576) (hw : Words ws) (i : Int) (h0 : -9223372036854775808 ≤ i) (h1 : i < 9223372036854775808) : FC Try.prog 25 [row, .int .i64 i] h (Made h (setR ws i)) :=
  (setRef_fc h row ws s hlen hw i h0 h1).mono fun d h' hn => hn.made (setR_length ws i).symm
theorem and_md (h : Heap) (rows : D) (rs : List (List Nat)) (hr : RowsOf h rows rs) (hlen : rs.length ≤ 1048576) (hl : ∀ x ∈ rs, x.length ≤ 1048576) (hw : ∀ x ∈ rs, Words x) : FC Try.prog 33 [rows] h (Made h (andR rs)) :=
  (and_fc h rows rs hr hlen hl hw).mono fun d h' ⟨L, e, s⟩ => ⟨⟨L, e⟩, s⟩
theorem or_md (h : Heap) (rows : D) (rs : List (List Nat)) (hr : RowsOf h rows rs) (hlen : rs.length ≤ 1048576) (hl : ∀ x ∈ rs, x.length ≤ 1048576) (hw : ∀ x ∈ rs, Words x) : FC Try.prog 35 [rows] h (Made h (orR rs)) :=
  (or_fc h rows rs hr hlen hl hw).mono fun d h' hn => hn.made rfl
theorem list_md (h : Heap) (row : D) (ws : List Nat) (s : RowOf h row ws) (hlen : ws.length ≤ 1048576) (hw : Words ws) : FC Try.prog 30 [row] h fun d h' => Ext h h' ∧ SlOf h' 1 d (i64s (onesL ws)) (onesL ws).length :=
  (list_fc h row ws s hlen hw).mono fun d h' hn => by
    have : NewSl h (i64s (onesL ws)) (onesL ws).length d h' := by
      rcases hn with ⟨rfl, h0, rfl⟩ | ⟨rfl, rfl⟩
      · exact .inl ⟨rfl, by rw [h0]; rfl, by rw [h0]; rfl, rfl⟩
      · exact .inr ⟨rfl, rfl⟩
    exact ⟨this.ext, this.sl (i64s_length _)⟩
theorem listRef_md (h : Heap) (row : D) (ws : List Nat) (s : RowOf h row ws) (hlen : ws.length ≤ 1048576) (hw : Words ws) : FC Try.prog 31 [row] h fun d h' => Ext h h' ∧ SlOf h' 1 d (i64s (onesL ws)) (onesL ws).length :=
  (listRef_fc h row ws s hlen hw).mono fun d h' this => ⟨this.ext, this.sl (i64s_length _)⟩

/-- Two rows side by side. -/
theorem rows2 {h : Heap} {x y : D} {a b : List Nat} (s : RowOf h x a) (t : RowOf h y b) : RowsOf (h ++ [.grow 1 [x, y] 2]) (.own h.length 2) [a, b] := by
  refine ⟨[x, y], own_of (last_get _ _) (by simp), fun k hk => ?_⟩
  match k, hk with
  | 0, _ => exact ⟨x, rfl, s.low _⟩
  | 1, _ => exact ⟨y, rfl, t.low _⟩

theorem live18 (h : Heap) : FC Try.prog 19 [] h fun d h' => d = .bool true ∧ h' = h := by
  refine FC.goes cf19 ?_; simp only [c19]; simp only [List.length_cons, List.length_nil, Nat.reduceAdd, Nat.reduceSub, List.replicate_succ, List.replicate_zero, List.cons_append, List.nil_append]
  simp (disch := first | omega | (simp only [List.length_append, List.length_cons, List.length_nil]; omega)) only [c19r0, c19r1, c19r2, c19r3, go_sem, ↓reduceIte, reduceCtorEq, Nat.reduceAdd, Nat.reduceSub, Nat.reducePow, Nat.reduceMul, Nat.reduceEqDiff, Nat.reduceLT, Nat.reduceLeDiff, Int.reduceToNat, Int.reduceLT, Int.reduceLE, Int.reduceEq, Int.reduceNeg, Int.reduceAdd, Int.reduceSub, Int.reduceMul]
  refine gfc_of (new_md _ 70 (by omega) (by omega)) ?_
  rintro x1 h1 ⟨E1, s1⟩
  rw [show newR 70 = [0, 0] by decide] at s1
  simp (disch := first | omega | (simp only [List.length_append, List.length_cons, List.length_nil]; omega)) only [go_sem, ↓reduceIte, reduceCtorEq, Nat.reduceAdd, Nat.reduceSub, Nat.reducePow, Nat.reduceMul, Nat.reduceEqDiff, Nat.reduceLT, Nat.reduceLeDiff, Int.reduceToNat, Int.reduceLT, Int.reduceLE, Int.reduceEq, Int.reduceNeg, Int.reduceAdd, Int.reduceSub, Int.reduceMul]
  refine gfc_of (set_md _ x1 _ s1 (by simp) (by simp [Words]) 69 (by omega) (by omega)) ?_
  rintro x2 h2 ⟨E2, s2⟩
  rw [show setR [0, 0] 69 = [0, 32] by decide] at s2
  simp (disch := first | omega | (simp only [List.length_append, List.length_cons, List.length_nil]; omega)) only [go_sem, ↓reduceIte, reduceCtorEq, Nat.reduceAdd, Nat.reduceSub, Nat.reducePow, Nat.reduceMul, Nat.reduceEqDiff, Nat.reduceLT, Nat.reduceLeDiff, Int.reduceToNat, Int.reduceLT, Int.reduceLE, Int.reduceEq, Int.reduceNeg, Int.reduceAdd, Int.reduceSub, Int.reduceMul]
  refine gfc_of (set_md _ x2 _ s2 (by simp) (by simp [Words]) 3 (by omega) (by omega)) ?_
  rintro xa h3 ⟨E3, sa⟩
  rw [show setR [0, 32] 3 = [8, 32] by decide] at sa
  simp (disch := first | omega | (simp only [List.length_append, List.length_cons, List.length_nil]; omega)) only [go_sem, ↓reduceIte, reduceCtorEq, Nat.reduceAdd, Nat.reduceSub, Nat.reducePow, Nat.reduceMul, Nat.reduceEqDiff, Nat.reduceLT, Nat.reduceLeDiff, Int.reduceToNat, Int.reduceLT, Int.reduceLE, Int.reduceEq, Int.reduceNeg, Int.reduceAdd, Int.reduceSub, Int.reduceMul]
  refine gfc_of (all_md _ 66 (by omega) (by omega)) ?_
  rintro xb h4 ⟨E4, sb⟩
  rw [show allR 66 = [18446744073709551615, 3] by decide] at sb
  have E : Ext h h4 := (E1.trans (E2.trans (E3.trans E4)))
  have sa := sa.ext E4
  have wa : Words [8, 32] := by simp [Words]
  have wb : Words [18446744073709551615, 3] := by simp [Words]
  generalize hA : ([8, 32] : List Nat) = A at *
  generalize hB : ([18446744073709551615, 3] : List Nat) = B at *
  have la : A.length = 2 := by rw [← hA]; rfl
  have lb : B.length = 2 := by rw [← hB]; rfl
  have va := u64s_get (ws := A) (k := 0) (by omega)
  have va1 := u64s_get (ws := A) (k := 1) (by omega)
  have vb1 := u64s_get (ws := B) (k := 1) (by omega)
  rw [show A.getD 0 0 = 8 by rw [← hA]; rfl] at va
  rw [show A.getD 1 0 = 32 by rw [← hA]; rfl] at va1
  rw [show B.getD 1 0 = 3 by rw [← hB]; rfl] at vb1
  obtain ⟨p0, c0, a1, a2, a3⟩ := SlOf.elem sa (k := .i64) (i := 0) (by omega) (by omega)
  obtain ⟨p1, c1, a4, a5, a6⟩ := SlOf.elem sa (k := .i64) (i := 1) (by omega) (by omega)
  obtain ⟨p2, c2, a7, a8, a9⟩ := SlOf.elem sb (k := .i64) (i := 1) (by omega) (by omega)
  have a3 := a3 0 (by omega)
  have a6 := a6 0 (by omega)
  have a9 := a9 0 (by omega)
  rw [show ((0 : Int).toNat * 1 + 0) = 0 by rfl, va] at a3
  rw [show ((1 : Int).toNat * 1 + 0) = 1 by rfl, va1] at a6
  rw [show ((1 : Int).toNat * 1 + 0) = 1 by rfl, vb1] at a9
  have ka : lenD h4 xa = some 2 := by have := SlOf.lend sa; rwa [la] at this
  have kb : lenD h4 xb = some 2 := by have := SlOf.lend sb; rwa [lb] at this
  have oa := SlOf.sort sa
  have ob := SlOf.sort sb
  simp (disch := first | omega | (simp only [List.length_append, List.length_cons, List.length_nil]; omega)) only [ka, kb, oa, ob, a1, a2, a3, a4, a5, a6, a7, a8, a9, go_sem, ↓reduceIte, reduceCtorEq, Nat.reduceAdd, Nat.reduceSub, Nat.reducePow, Nat.reduceMul, Nat.reduceEqDiff, Nat.reduceLT, Nat.reduceLeDiff, Int.reduceToNat, Int.reduceLT, Int.reduceLE, Int.reduceEq, Int.reduceNeg, Int.reduceAdd, Int.reduceSub, Int.reduceMul]
  refine gfc_of (has_fc _ xa A sa wa 69 (by omega) (by omega)) ?_
  rintro d h' ⟨rfl, e⟩
  rw [e, show hasR A 69 = true by rw [← hA]; decide]
  simp (disch := first | omega | (simp only [List.length_append, List.length_cons, List.length_nil]; omega)) only [go_sem, ↓reduceIte, reduceCtorEq, Nat.reduceAdd, Nat.reduceSub, Nat.reducePow, Nat.reduceMul, Nat.reduceEqDiff, Nat.reduceLT, Nat.reduceLeDiff, Int.reduceToNat, Int.reduceLT, Int.reduceLE, Int.reduceEq, Int.reduceNeg, Int.reduceAdd, Int.reduceSub, Int.reduceMul]
  refine gfc_of (has_fc _ xa A sa wa 70 (by omega) (by omega)) ?_
  rintro d h' ⟨rfl, e⟩
  rw [e, show hasR A 70 = false by rw [← hA]; decide]
  simp (disch := first | omega | (simp only [List.length_append, List.length_cons, List.length_nil]; omega)) only [go_sem, ↓reduceIte, reduceCtorEq, Nat.reduceAdd, Nat.reduceSub, Nat.reducePow, Nat.reduceMul, Nat.reduceEqDiff, Nat.reduceLT, Nat.reduceLeDiff, Int.reduceToNat, Int.reduceLT, Int.reduceLE, Int.reduceEq, Int.reduceNeg, Int.reduceAdd, Int.reduceSub, Int.reduceMul]
  refine gfc_of (has_fc _ xa A sa wa (-1) (by omega) (by omega)) ?_
  rintro d h' ⟨rfl, e⟩
  rw [e, show hasR A (-1) = false by rw [← hA]; decide]
  obtain ⟨l1, l2, l3⟩ := one_sl oa
  obtain ⟨l4, l5, l6⟩ := one_sl ob
  simp (disch := first | omega | (simp only [List.length_append, List.length_cons, List.length_nil]; omega)) only [l1, l2, l3, l4, l5, l6, go_sem, ↓reduceIte, reduceCtorEq, Nat.reduceAdd, Nat.reduceSub, Nat.reducePow, Nat.reduceMul, Nat.reduceEqDiff, Nat.reduceLT, Nat.reduceLeDiff, Int.reduceToNat, Int.reduceLT, Int.reduceLE, Int.reduceEq, Int.reduceNeg, Int.reduceAdd, Int.reduceSub, Int.reduceMul]
  have hlA : A.length ≤ 1048576 := by omega
  have hlB : B.length ≤ 1048576 := by omega
  have hls : ∀ x ∈ [A, B], x.length ≤ 1048576 := by simp [hlA, hlB]
  have hws : ∀ x ∈ [A, B], Words x := by simpa using ⟨wa, wb⟩
  refine gfc_of (and_md _ _ [A, B] (rows2 sa sb) (by simp) hls hws) ?_
  rintro x5 h5 ⟨E5, s5⟩
  have n1 : firstB (andR [A, B]) = 3 := by rw [← hA, ← hB]; decide
  have n2 : (onesL (orR [A, B])).length = 67 := by rw [← hA, ← hB]; decide
  have n3 : (andR [A, B.take 1]).length = 1 := by rw [← hA, ← hB]; decide
  have n4 : onesL A = [3, 69] := by rw [← hA]; decide
  have m1 : (andR [A, B]).length ≤ 1048576 := by rw [andR, List.foldl_cons, List.foldl_nil, andP_length]; omega
  have m2 : (orR [A, B]).length ≤ 1048576 := by rw [orR, List.foldl_cons, List.foldl_cons, List.foldl_nil, orP_length, orP_length]; simp; omega
  have F5 : Ext h4 h5 := (Ext.app (Ext.refl h4) _).trans E5
  simp (disch := first | omega | (simp only [List.length_append, List.length_cons, List.length_nil]; omega)) only [go_sem, ↓reduceIte, reduceCtorEq, Nat.reduceAdd, Nat.reduceSub, Nat.reducePow, Nat.reduceMul, Nat.reduceEqDiff, Nat.reduceLT, Nat.reduceLeDiff, Int.reduceToNat, Int.reduceLT, Int.reduceLE, Int.reduceEq, Int.reduceNeg, Int.reduceAdd, Int.reduceSub, Int.reduceMul]
  refine gfc_of (first_fc _ x5 _ s5 m1 (andR_words hws)) ?_
  rintro d h' ⟨rfl, e⟩
  rw [e, n1]
  have sa := sa.ext F5
  have sb := sb.ext F5
  simp (disch := first | omega | (simp only [List.length_append, List.length_cons, List.length_nil]; omega)) only [l1, l2, l3, l4, l5, l6, go_sem, ↓reduceIte, reduceCtorEq, Nat.reduceAdd, Nat.reduceSub, Nat.reducePow, Nat.reduceMul, Nat.reduceEqDiff, Nat.reduceLT, Nat.reduceLeDiff, Int.reduceToNat, Int.reduceLT, Int.reduceLE, Int.reduceEq, Int.reduceNeg, Int.reduceAdd, Int.reduceSub, Int.reduceMul]
  refine gfc_of (or_md _ _ [A, B] (rows2 sa sb) (by simp) hls hws) ?_
  rintro x6 h6 ⟨E6, s6⟩
  have F6 : Ext h5 h6 := (Ext.app (Ext.refl h5) _).trans E6
  simp (disch := first | omega | (simp only [List.length_append, List.length_cons, List.length_nil]; omega)) only [go_sem, ↓reduceIte, reduceCtorEq, Nat.reduceAdd, Nat.reduceSub, Nat.reducePow, Nat.reduceMul, Nat.reduceEqDiff, Nat.reduceLT, Nat.reduceLeDiff, Int.reduceToNat, Int.reduceLT, Int.reduceLE, Int.reduceEq, Int.reduceNeg, Int.reduceAdd, Int.reduceSub, Int.reduceMul]
  refine gfc_of (count_fc _ x6 _ s6 m2 (orR_words hws)) ?_
  rintro d h' ⟨rfl, e⟩
  rw [e, n2]
  have sa := sa.ext F6
  have sb := sb.ext F6
  simp (disch := first | omega | (simp only [List.length_append, List.length_cons, List.length_nil]; omega)) only [go_sem, ↓reduceIte, reduceCtorEq, Nat.reduceAdd, Nat.reduceSub, Nat.reducePow, Nat.reduceMul, Nat.reduceEqDiff, Nat.reduceLT, Nat.reduceLeDiff, Int.reduceToNat, Int.reduceLT, Int.reduceLE, Int.reduceEq, Int.reduceNeg, Int.reduceAdd, Int.reduceSub, Int.reduceMul]
  refine gfc_of (list_md _ xa _ sa hlA wa) ?_
  rintro x7 h7 ⟨E7, s7⟩
  rw [n4] at s7
  simp (disch := first | omega | (simp only [List.length_append, List.length_cons, List.length_nil]; omega)) only [go_sem, ↓reduceIte, reduceCtorEq, Nat.reduceAdd, Nat.reduceSub, Nat.reducePow, Nat.reduceMul, Nat.reduceEqDiff, Nat.reduceLT, Nat.reduceLeDiff, Int.reduceToNat, Int.reduceLT, Int.reduceLE, Int.reduceEq, Int.reduceNeg, Int.reduceAdd, Int.reduceSub, Int.reduceMul]
  refine gfc_of (sameInts_fc _ x7 _ [3, 69] [3, 69] (s7.low _) (own_of (last_get _ _) (by simp [i64s])) (by simp) (by simp)) ?_
  rintro d h' ⟨rfl, e⟩
  rw [e]
  have F7 : Ext h6 (h7 ++ [.grow 1 [.int .i64 3, .int .i64 69] 2]) := E7.app _
  have sa := sa.ext F7
  have sb := sb.ext F7
  generalize h7 ++ [.grow 1 [.int .i64 3, .int .i64 69] 2] = h8 at *
  simp (disch := first | omega | (simp only [List.length_append, List.length_cons, List.length_nil]; omega)) only [go_sem, ↓reduceIte, reduceCtorEq, Nat.reduceAdd, Nat.reduceSub, Nat.reducePow, Nat.reduceMul, Nat.reduceEqDiff, Nat.reduceLT, Nat.reduceLeDiff, Int.reduceToNat, Int.reduceLT, Int.reduceLE, Int.reduceEq, Int.reduceNeg, Int.reduceAdd, Int.reduceSub, Int.reduceMul]
  refine gfc_of (first_fc _ .nils [] (nils_of _ _) (by simp) (by simp)) ?_
  rintro d h' ⟨rfl, e⟩
  rw [e, show firstB [] = -1 by decide]
  simp (disch := first | omega | (simp only [List.length_append, List.length_cons, List.length_nil]; omega)) only [go_sem, ↓reduceIte, reduceCtorEq, Nat.reduceAdd, Nat.reduceSub, Nat.reducePow, Nat.reduceMul, Nat.reduceEqDiff, Nat.reduceLT, Nat.reduceLeDiff, Int.reduceToNat, Int.reduceLT, Int.reduceLE, Int.reduceEq, Int.reduceNeg, Int.reduceAdd, Int.reduceSub, Int.reduceMul]
  refine gfc_of (new_md _ 65537 (by omega) (by omega)) ?_
  rintro x9 h9 ⟨E9, s9⟩
  rw [show newR 65537 = [] by decide] at s9
  have k9 := SlOf.lend s9
  have o9 := SlOf.sort s9
  simp only [List.length_nil] at k9
  simp (disch := first | omega | (simp only [List.length_append, List.length_cons, List.length_nil]; omega)) only [k9, o9, go_sem, ↓reduceIte, reduceCtorEq, Nat.reduceAdd, Nat.reduceSub, Nat.reducePow, Nat.reduceMul, Nat.reduceEqDiff, Nat.reduceLT, Nat.reduceLeDiff, Int.reduceToNat, Int.reduceLT, Int.reduceLE, Int.reduceEq, Int.reduceNeg, Int.reduceAdd, Int.reduceSub, Int.reduceMul]
  refine gfc_of (and_md _ _ [] ⟨[], nils_of _ _, by simp⟩ (by simp) (by simp) (by simp)) ?_
  rintro x10 h10 ⟨E10, s10⟩
  have k10 := SlOf.lend s10
  have o10 := SlOf.sort s10
  rw [show andR [] = [] from rfl] at k10
  simp only [List.length_nil] at k10
  have F10 : Ext h8 h10 := E9.trans E10
  have sa := sa.ext F10
  have sb := sb.ext F10
  obtain ⟨xc, g1, g2⟩ := SlOf.sub sb (lo := none) (hi := some (.int .i64 1)) (a := 0) (b := 1) (by simp only [bnd]; rw [if_pos ⟨by omega, by omega⟩]; rfl) rfl (by omega) (by omega)
  have oc := SlOf.sort g2
  obtain ⟨l7, l8, l9⟩ := one_sl oc
  have sc : RowOf h10 xc (B.take 1) := by
    have : (B.take 1).length = 1 := by rw [List.length_take]; omega
    unfold RowOf
    rw [this, ← u64s_takes]
    exact g2
  simp (disch := first | omega | (simp only [List.length_append, List.length_cons, List.length_nil]; omega)) only [k10, o10, g1, l1, l2, l3, l7, l8, l9, go_sem, ↓reduceIte, reduceCtorEq, Nat.reduceAdd, Nat.reduceSub, Nat.reducePow, Nat.reduceMul, Nat.reduceEqDiff, Nat.reduceLT, Nat.reduceLeDiff, Int.reduceToNat, Int.reduceLT, Int.reduceLE, Int.reduceEq, Int.reduceNeg, Int.reduceAdd, Int.reduceSub, Int.reduceMul]
  refine gfc_of (and_md _ _ [A, B.take 1] (rows2 sa sc) (by simp) (by simp; omega) ?_) ?_
  · intro x hx
    rcases List.mem_cons.1 hx with rfl | hx
    · exact wa
    · rcases List.mem_cons.1 hx with rfl | hx
      · intro w hw; exact wb w (List.mem_of_mem_take hw)
      · simp at hx
  rintro x11 h11 ⟨E11, s11⟩
  have k11 := SlOf.lend s11
  have o11 := SlOf.sort s11
  rw [n3] at k11
  simp (disch := first | omega | (simp only [List.length_append, List.length_cons, List.length_nil]; omega)) only [k11, o11, go_sem, ↓reduceIte, reduceCtorEq, Nat.reduceAdd, Nat.reduceSub, Nat.reducePow, Nat.reduceMul, Nat.reduceEqDiff, Nat.reduceLT, Nat.reduceLeDiff, Int.reduceToNat, Int.reduceLT, Int.reduceLE, Int.reduceEq, Int.reduceNeg, Int.reduceAdd, Int.reduceSub, Int.reduceMul]
  refine fin_ext ?_ rfl ⟨rfl, rfl⟩
  exact E.trans (F5.trans (F6.trans (F7.trans (F10.trans ((Ext.app (Ext.refl _) _).trans E11)))))
end Go.Proofs
