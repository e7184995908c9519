/-
  Own work. The walks of bitrow.First and bitrow.List: loops over a function.
-/
import Derived.Test.YtjciahobhaaheaaA
namespace Go.Proofs
open Go Go.Ytjciahobhaaheaa
set_option linter.unusedVariables false
set_option linter.unusedSimpArgs false
set_option maxRecDepth 10000

/-! ### weighbridge/bitrow.First, params 1 -/
def c27r0 : List AStm := [.op (some 2) none (.alloc [(.int .i64 0)])]
def c27r1 : List AStm := [.op (some 4) none (.mv (.t 0)),
    .call (some 5) none (.c (.fn (.func 46) [] [])) [(.t 4)]]
def c27r2 : List AStm := [.op (some 3) none (.mv (.t 6))]
def c27r3 : List AStm := [.op (some 7) none (.mv (.t 3)),
    .op none none (.store 1 (.t 2) (.t 7))]
def c27l4 : AC := .reg c27r2
def c27l5 : AC := .block 1 (.seq (.reg c27r3) (.ret))
def c27r6 : List AStm := [.op none none (.store 1 (.t 2) (.c (.int .i64 (-1))))]
def c27 : CF := ⟨.seq (.reg c27r0) (.seq (.seq (.reg c27r1) (.block 0 (.rfunc (.t 5) [6] c27l4 c27l5))) (.seq (.reg c27r6) (.ret))), [.cell 2 none], 8⟩
theorem cf27 : cfun Try.prog 27 = some c27 := by kernel_rfl

/-! ### weighbridge/bitrow.List, params 1 -/
def c30r0 : List AStm := [.op (some 2) none (.mv (.c .nils))]
def c30r1 : List AStm := [.op (some 3) none (.alloc [.nils])]
def c30r2 : List AStm := [.op (some 5) none (.mv (.t 0)),
    .call (some 6) none (.c (.fn (.func 46) [] [])) [(.t 5)]]
def c30r3 : List AStm := [.op (some 4) none (.mv (.t 7))]
def c30r4 : List AStm := [.op (some 8) none (.load none (.t 3)),
    .op (some 9) none (.mv (.t 4)),
    .op (some 10) none (.bslice 1 [(.int .i64 0)] 1 [(0, 1, (.t 9))]),
    .op (some 11) none (.append false 1 8 (.t 8) (.t 10)),
    .op none none (.store 1 (.t 3) (.t 11))]
def c30l5 : AC := .reg c30r3
def c30l6 : AC := .block 1 (.reg c30r4)
def c30r7 : List AStm := [.op (some 12) none (.load none (.t 3)),
    .op (some 2) none (.mv (.t 12))]
def c30 : CF := ⟨.seq (.reg c30r0) (.seq (.reg c30r1) (.seq (.seq (.reg c30r2) (.block 0 (.rfunc (.t 6) [7] c30l5 c30l6))) (.seq (.reg c30r7) (.ret)))), [.tmp 2], 13⟩
theorem cf30 : cfun Try.prog 30 = some c30 := by kernel_rfl



theorem onesTo_split (ws : List Nat) (n : Nat) : ∀ d, ∃ l, onesTo ws (n + d) = onesTo ws n ++ l ∧ (0 < d → hasB ws n = true → ∃ l', l = n :: l')
  | 0 => ⟨[], by simp, fun h => absurd h (by omega)⟩
  | d + 1 => by
    obtain ⟨l, h1, h2⟩ := onesTo_split ws n d
    rw [show n + (d + 1) = (n + d) + 1 by omega, onesTo_succ, h1, List.append_assoc]
    refine ⟨_, rfl, fun _ hb => ?_⟩
    rcases Nat.eq_zero_or_pos d with rfl | hd
    · have hl : l = [] := by simpa using h1.symm
      rw [hl, Nat.add_zero, hb]; simp
    · obtain ⟨l', rfl⟩ := h2 hd hb
      exact ⟨_, rfl⟩
def i64s (l : List Nat) : List D := l.map fun n : Nat => D.int .i64 (n : Int)
theorem i64s_snoc (l : List Nat) (n : Nat) : i64s (l ++ [n]) = i64s l ++ [.int .i64 (n : Int)] := by simp [i64s]
theorem underL_i64s (k : Nat) (l : List Nat) : underL k (i64s l) = true := by
  induction l with
  | nil => rfl
  | cons a l ih => exact (by simpa [i64s, underL, underD] using ih)
/-- All the bits that are set. -/
def onesL (ws : List Nat) : List Nat := onesTo ws (64 * ws.length)
def firstB (ws : List Nat) : Int := match onesL ws with
  | [] => -1
  | x :: _ => x

theorem first_fc (h : Heap) (row : D) (ws : List Nat) (s : SlOf h 1 row (u64s ws) ws.length) (hlen : ws.length ≤ 1048576) (hw : ∀ w ∈ ws, w < 18446744073709551616) :
    FC Try.prog 27 [row] h fun d h' => d = .int .i64 (firstB ws) ∧ h' = h := by
  refine FC.goes cf27 ?_; simp only [c27]; simp only [List.length_cons, List.length_nil, Nat.reduceAdd, Nat.reduceSub, List.replicate_succ, List.replicate_zero, List.cons_append, List.nil_append]
  simp (disch := first | omega | (simp only [List.length_append, List.length_cons, List.length_nil]; omega)) only [c27r0, c27r1, c27r2, c27r3, c27l4, c27l5, c27r6, go_sem, ↓reduceIte, reduceCtorEq, Nat.reduceAdd, Nat.reduceSub, Nat.reducePow, Nat.reduceMul, Nat.reduceEqDiff, Nat.reduceLT, Nat.reduceLeDiff, Int.reduceToNat, Int.reduceLT, Int.reduceLE, Int.reduceEq, Int.reduceNeg, Int.reduceAdd, Int.reduceSub, Int.reduceMul]
  refine gfc_of (bits_fc _ row s.sort) ?_
  rintro d h' ⟨rfl, rfl⟩
  simp (disch := first | omega | (simp only [List.length_append, List.length_cons, List.length_nil]; omega)) only [go_sem, ↓reduceIte, reduceCtorEq, Nat.reduceAdd, Nat.reduceSub, Nat.reducePow, Nat.reduceMul, Nat.reduceEqDiff, Nat.reduceLT, Nat.reduceLeDiff, Int.reduceToNat, Int.reduceLT, Int.reduceLE, Int.reduceEq, Int.reduceNeg, Int.reduceAdd, Int.reduceSub, Int.reduceMul]
  refine gr_of 0 fun u v cu cv => ?_
  simp (disch := first | omega | (simp only [List.length_append, List.length_cons, List.length_nil]; omega)) only [List.replicate_zero, go_sem, ↓reduceIte, reduceCtorEq, Nat.reduceAdd, Nat.reduceSub, Nat.reducePow, Nat.reduceMul, Nat.reduceEqDiff, Nat.reduceLT, Nat.reduceLeDiff, Int.reduceToNat, Int.reduceLT, Int.reduceLE, Int.reduceEq, Int.reduceNeg, Int.reduceAdd, Int.reduceSub, Int.reduceMul]
  generalize hT : ([row, .any, .ref (List.length h) 0, .any, row, .fn (.func 49) [] [.ref (List.length h + 1) 0], .any, .any] : List D) = T
  refine (bits1_fc (I := fun l h' => l = [] ∧ h' = h ++ [.box [.int .i64 0], .box [row], .recb .ready T [6] u v none])
    (Stop := fun h' => ∃ (x : Nat) (l : List Nat), onesL ws = x :: l ∧ h' = h ++ [.box [.int .i64 (x : Int)], .box [row], .recb .done T [6] u v (some .ret)]) ws row (h.length + 1) (h.length + 2) _ ⟨rfl, rfl⟩ ?_ hlen hw ?_).mono ?_
  · rintro l h' ⟨-, rfl⟩
    exact ⟨by simp (disch := first | omega | (simp only [List.length_append, List.length_cons, List.length_nil]; omega)) only [go_sem, ↓reduceIte, reduceCtorEq, Nat.reduceAdd, Nat.reduceSub, Nat.reducePow, Nat.reduceMul, Nat.reduceEqDiff, Nat.reduceLT, Nat.reduceLeDiff, Int.reduceToNat, Int.reduceLT, Int.reduceLE, Int.reduceEq, Int.reduceNeg, Int.reduceAdd, Int.reduceSub, Int.reduceMul], s.low _⟩
  · rintro n h' hn hb ⟨he, rfl⟩
    refine YC.goes (T := T) (ps := [6]) cu cv (by simp (disch := first | omega | (simp only [List.length_append, List.length_cons, List.length_nil]; omega)) only [go_sem, ↓reduceIte, reduceCtorEq, Nat.reduceAdd, Nat.reduceSub, Nat.reducePow, Nat.reduceMul, Nat.reduceEqDiff, Nat.reduceLT, Nat.reduceLeDiff, Int.reduceToNat, Int.reduceLT, Int.reduceLE, Int.reduceEq, Int.reduceNeg, Int.reduceAdd, Int.reduceSub, Int.reduceMul]) rfl rfl rfl ?_
    subst hT
    simp (disch := first | omega | (simp only [List.length_append, List.length_cons, List.length_nil]; omega)) only [setps, List.zip_cons_cons, List.zip_nil_right, List.foldl_cons, List.foldl_nil, go_sem, ↓reduceIte, reduceCtorEq, Nat.reduceAdd, Nat.reduceSub, Nat.reducePow, Nat.reduceMul, Nat.reduceEqDiff, Nat.reduceLT, Nat.reduceLeDiff, Int.reduceToNat, Int.reduceLT, Int.reduceLE, Int.reduceEq, Int.reduceNeg, Int.reduceAdd, Int.reduceSub, Int.reduceMul]
    obtain ⟨l, h1, h2⟩ := onesTo_split ws n (64 * ws.length - n)
    obtain ⟨l', rfl⟩ := h2 (by omega) hb
    rw [show n + (64 * ws.length - n) = 64 * ws.length by omega, he, List.nil_append] at h1
    exact Drops.of _ [] (List.append_nil _).symm (UOk.append (UOk.refl _ _) ⟨.inr rfl, .inl rfl, .inl rfl, trivial⟩) (.inr ⟨n, l', h1, rfl⟩)
  · rintro d h' (⟨he, rfl⟩ | ⟨x, l, he, rfl⟩)
    · refine ⟨.ready, none, by simp (disch := first | omega | (simp only [List.length_append, List.length_cons, List.length_nil]; omega)) only [go_sem, ↓reduceIte, reduceCtorEq, Nat.reduceAdd, Nat.reduceSub, Nat.reducePow, Nat.reduceMul, Nat.reduceEqDiff, Nat.reduceLT, Nat.reduceLeDiff, Int.reduceToNat, Int.reduceLT, Int.reduceLE, Int.reduceEq, Int.reduceNeg, Int.reduceAdd, Int.reduceSub, Int.reduceMul], by simp, ?_⟩
      subst hT
      simp (disch := first | omega | (simp only [List.length_append, List.length_cons, List.length_nil]; omega)) only [go_sem, ↓reduceIte, reduceCtorEq, Nat.reduceAdd, Nat.reduceSub, Nat.reducePow, Nat.reduceMul, Nat.reduceEqDiff, Nat.reduceLT, Nat.reduceLeDiff, Int.reduceToNat, Int.reduceLT, Int.reduceLE, Int.reduceEq, Int.reduceNeg, Int.reduceAdd, Int.reduceSub, Int.reduceMul]
      have : firstB ws = -1 := by unfold firstB onesL; rw [he]
      rw [this]
      exact FinOk.drop (.inl rfl) (by simp [underL, underD]) ⟨rfl, rfl⟩
    · refine ⟨.done, some .ret, by simp (disch := first | omega | (simp only [List.length_append, List.length_cons, List.length_nil]; omega)) only [go_sem, ↓reduceIte, reduceCtorEq, Nat.reduceAdd, Nat.reduceSub, Nat.reducePow, Nat.reduceMul, Nat.reduceEqDiff, Nat.reduceLT, Nat.reduceLeDiff, Int.reduceToNat, Int.reduceLT, Int.reduceLE, Int.reduceEq, Int.reduceNeg, Int.reduceAdd, Int.reduceSub, Int.reduceMul], by simp, ?_⟩
      subst hT
      simp (disch := first | omega | (simp only [List.length_append, List.length_cons, List.length_nil]; omega)) only [go_sem, ↓reduceIte, reduceCtorEq, Nat.reduceAdd, Nat.reduceSub, Nat.reducePow, Nat.reduceMul, Nat.reduceEqDiff, Nat.reduceLT, Nat.reduceLeDiff, Int.reduceToNat, Int.reduceLT, Int.reduceLE, Int.reduceEq, Int.reduceNeg, Int.reduceAdd, Int.reduceSub, Int.reduceMul]
      have : firstB ws = x := by unfold firstB; rw [he]
      rw [this]
      exact FinOk.drop (.inl rfl) (by simp [underL, underD]) ⟨rfl, rfl⟩

theorem list_fc (h : Heap) (row : D) (ws : List Nat) (s : SlOf h 1 row (u64s ws) ws.length) (hlen : ws.length ≤ 1048576) (hw : ∀ w ∈ ws, w < 18446744073709551616) :
    FC Try.prog 30 [row] h fun d h' => (d = .nils ∧ onesL ws = [] ∧ h' = h) ∨ (d = .own h.length (onesL ws).length ∧ h' = h ++ [.grow 1 (i64s (onesL ws)) (onesL ws).length]) := by
  refine FC.goes cf30 ?_; simp only [c30]; simp only [List.length_cons, List.length_nil, Nat.reduceAdd, Nat.reduceSub, List.replicate_succ, List.replicate_zero, List.cons_append, List.nil_append]
  simp (disch := first | omega | (simp only [List.length_append, List.length_cons, List.length_nil]; omega)) only [c30r0, c30r1, c30r2, c30r3, c30r4, c30l5, c30l6, c30r7, go_sem, ↓reduceIte, reduceCtorEq, Nat.reduceAdd, Nat.reduceSub, Nat.reducePow, Nat.reduceMul, Nat.reduceEqDiff, Nat.reduceLT, Nat.reduceLeDiff, Int.reduceToNat, Int.reduceLT, Int.reduceLE, Int.reduceEq, Int.reduceNeg, Int.reduceAdd, Int.reduceSub, Int.reduceMul]
  refine gfc_of (bits_fc _ row s.sort) ?_
  rintro d h' ⟨rfl, rfl⟩
  simp (disch := first | omega | (simp only [List.length_append, List.length_cons, List.length_nil]; omega)) only [go_sem, ↓reduceIte, reduceCtorEq, Nat.reduceAdd, Nat.reduceSub, Nat.reducePow, Nat.reduceMul, Nat.reduceEqDiff, Nat.reduceLT, Nat.reduceLeDiff, Int.reduceToNat, Int.reduceLT, Int.reduceLE, Int.reduceEq, Int.reduceNeg, Int.reduceAdd, Int.reduceSub, Int.reduceMul]
  refine gr_of 1 fun u v cu cv => ?_
  simp (disch := first | omega | (simp only [List.length_append, List.length_cons, List.length_nil]; omega)) only [List.replicate_zero, List.replicate_succ, go_sem, ↓reduceIte, reduceCtorEq, Nat.reduceAdd, Nat.reduceSub, Nat.reducePow, Nat.reduceMul, Nat.reduceEqDiff, Nat.reduceLT, Nat.reduceLeDiff, Int.reduceToNat, Int.reduceLT, Int.reduceLE, Int.reduceEq, Int.reduceNeg, Int.reduceAdd, Int.reduceSub, Int.reduceMul]
  generalize hT : ([row, .any, .nils, .ref (List.length h) 0, .any, row, .fn (.func 49) [] [.ref (List.length h + 1) 0], .any, .any, .any, .any, .any, .any] : List D) = T
  have hle : ∀ n, (onesTo ws n).length ≤ n := fun n => by
    have := List.length_filter_le (hasB ws) (List.range n)
    simpa [onesTo] using this
  refine (bits1_fc (I := fun l h' => (l = [] ∧ h' = h ++ [.box [.nils], .box [row], .recb .ready T [7] u v none, .free]) ∨
      (l ≠ [] ∧ h' = h ++ [.box [.own (h.length + 3) l.length], .box [row], .recb .ready T [7] u v none, .grow 1 (i64s l) l.length]))
    (Stop := fun h' => False) ws row (h.length + 1) (h.length + 2) _ (.inl ⟨rfl, rfl⟩) ?_ hlen hw ?_).mono ?_
  · rintro l h' (⟨-, rfl⟩ | ⟨-, rfl⟩)
    · exact ⟨by simp (disch := first | omega | (simp only [List.length_append, List.length_cons, List.length_nil]; omega)) only [go_sem, ↓reduceIte, reduceCtorEq, Nat.reduceAdd, Nat.reduceSub, Nat.reducePow, Nat.reduceMul, Nat.reduceEqDiff, Nat.reduceLT, Nat.reduceLeDiff, Int.reduceToNat, Int.reduceLT, Int.reduceLE, Int.reduceEq, Int.reduceNeg, Int.reduceAdd, Int.reduceSub, Int.reduceMul], s.low _⟩
    · exact ⟨by simp (disch := first | omega | (simp only [List.length_append, List.length_cons, List.length_nil]; omega)) only [go_sem, ↓reduceIte, reduceCtorEq, Nat.reduceAdd, Nat.reduceSub, Nat.reducePow, Nat.reduceMul, Nat.reduceEqDiff, Nat.reduceLT, Nat.reduceLeDiff, Int.reduceToNat, Int.reduceLT, Int.reduceLE, Int.reduceEq, Int.reduceNeg, Int.reduceAdd, Int.reduceSub, Int.reduceMul], s.low _⟩
  · rintro n h' hn hb (⟨he, rfl⟩ | ⟨he, rfl⟩)
    · refine YC.goes (T := T) (ps := [7]) cu cv (by simp (disch := first | omega | (simp only [List.length_append, List.length_cons, List.length_nil]; omega)) only [go_sem, ↓reduceIte, reduceCtorEq, Nat.reduceAdd, Nat.reduceSub, Nat.reducePow, Nat.reduceMul, Nat.reduceEqDiff, Nat.reduceLT, Nat.reduceLeDiff, Int.reduceToNat, Int.reduceLT, Int.reduceLE, Int.reduceEq, Int.reduceNeg, Int.reduceAdd, Int.reduceSub, Int.reduceMul]) rfl rfl rfl ?_
      subst hT
      simp (disch := first | omega | (simp only [List.length_append, List.length_cons, List.length_nil]; omega)) only [setps, List.zip_cons_cons, List.zip_nil_right, List.foldl_cons, List.foldl_nil, go_sem, ↓reduceIte, reduceCtorEq, Nat.reduceAdd, Nat.reduceSub, Nat.reducePow, Nat.reduceMul, Nat.reduceEqDiff, Nat.reduceLT, Nat.reduceLeDiff, Int.reduceToNat, Int.reduceLT, Int.reduceLE, Int.reduceEq, Int.reduceNeg, Int.reduceAdd, Int.reduceSub, Int.reduceMul]
      generalize hT : ([row, .any, .nils, .ref (List.length h) 0, .any, row, .fn (.func 49) [] [.ref (List.length h + 1) 0], .any, .any, .any, .any, .any, .any] : List D) = T
      refine Drops.take (h ++ [.box [.own (h.length + 5) 1], .box [row], .recb .ready T [7] u v none, .free]) [.grow 1 [.int .i64 (n : Int)] 1, .grow 1 [.int .i64 (n : Int)] 1]
        (h ++ [.box [.own (h.length + 3) 1], .box [row], .recb .ready T [7] u v none, .free]) (h.length + 5) (h.length + 3) (.grow 1 [.int .i64 (n : Int)] 1) (by simp)
        (ROk.append (ROk.refl _ _ _ _) ⟨.inr ⟨?_, ?_⟩, .inl ⟨bkeep.refl _, rfl⟩, .inl ⟨bkeep.refl _, rfl⟩, .inl ⟨bkeep.refl _, rfl⟩, trivial⟩) (by simp (disch := first | omega | (simp only [List.length_append, List.length_cons, List.length_nil]; omega)) only [go_sem, ↓reduceIte, reduceCtorEq, Nat.reduceAdd, Nat.reduceSub, Nat.reducePow, Nat.reduceMul, Nat.reduceEqDiff, Nat.reduceLT, Nat.reduceLeDiff, Int.reduceToNat, Int.reduceLT, Int.reduceLE, Int.reduceEq, Int.reduceNeg, Int.reduceAdd, Int.reduceSub, Int.reduceMul]) (by simp (disch := first | omega | (simp only [List.length_append, List.length_cons, List.length_nil]; omega)) only [go_sem, ↓reduceIte, reduceCtorEq, Nat.reduceAdd, Nat.reduceSub, Nat.reducePow, Nat.reduceMul, Nat.reduceEqDiff, Nat.reduceLT, Nat.reduceLeDiff, Int.reduceToNat, Int.reduceLT, Int.reduceLE, Int.reduceEq, Int.reduceNeg, Int.reduceAdd, Int.reduceSub, Int.reduceMul]) (by simp) (by simp (disch := first | omega | (simp only [List.length_append, List.length_cons, List.length_nil]; omega)) only [go_sem, ↓reduceIte, reduceCtorEq, Nat.reduceAdd, Nat.reduceSub, Nat.reducePow, Nat.reduceMul, Nat.reduceEqDiff, Nat.reduceLT, Nat.reduceLeDiff, Int.reduceToNat, Int.reduceLT, Int.reduceLE, Int.reduceEq, Int.reduceNeg, Int.reduceAdd, Int.reduceSub, Int.reduceMul]) (by simp) ?_ ?_
      · simp [renB, renL, renD, ren1]
      · simp [underB, underL, underD]
      · simp [renB, renL, renD, underB, underL, underD]
      · refine .inl (.inr ⟨by simp, ?_⟩)
        simp (disch := first | omega | (simp only [List.length_append, List.length_cons, List.length_nil]; omega)) only [he, go_sem, ↓reduceIte, reduceCtorEq, Nat.reduceAdd, Nat.reduceSub, Nat.reducePow, Nat.reduceMul, Nat.reduceEqDiff, Nat.reduceLT, Nat.reduceLeDiff, Int.reduceToNat, Int.reduceLT, Int.reduceLE, Int.reduceEq, Int.reduceNeg, Int.reduceAdd, Int.reduceSub, Int.reduceMul]
        simp [renB, renL, renD, i64s]
    · have hl := hle n
      refine YC.goes (T := T) (ps := [7]) cu cv (by simp (disch := first | omega | (simp only [List.length_append, List.length_cons, List.length_nil]; omega)) only [go_sem, ↓reduceIte, reduceCtorEq, Nat.reduceAdd, Nat.reduceSub, Nat.reducePow, Nat.reduceMul, Nat.reduceEqDiff, Nat.reduceLT, Nat.reduceLeDiff, Int.reduceToNat, Int.reduceLT, Int.reduceLE, Int.reduceEq, Int.reduceNeg, Int.reduceAdd, Int.reduceSub, Int.reduceMul]) rfl rfl rfl ?_
      subst hT
      have hl2 : (onesTo ws n).length + 1 ≤ 1073741824 := by omega
      simp (disch := first | omega | (simp only [List.length_append, List.length_cons, List.length_nil]; omega)) only [hl2, setps, List.zip_cons_cons, List.zip_nil_right, List.foldl_cons, List.foldl_nil, go_sem, ↓reduceIte, reduceCtorEq, Nat.reduceAdd, Nat.reduceSub, Nat.reducePow, Nat.reduceMul, Nat.reduceEqDiff, Nat.reduceLT, Nat.reduceLeDiff, Int.reduceToNat, Int.reduceLT, Int.reduceLE, Int.reduceEq, Int.reduceNeg, Int.reduceAdd, Int.reduceSub, Int.reduceMul]
      generalize hT : ([row, .any, .nils, .ref (List.length h) 0, .any, row, .fn (.func 49) [] [.ref (List.length h + 1) 0], .any, .any, .any, .any, .any, .any] : List D) = T
      refine Drops.of (h ++ [.box [.own (h.length + 3) ((onesTo ws n).length + 1)], .box [row], .recb .ready T [7] u v none, .grow 1 (i64s (onesTo ws n) ++ [.int .i64 (n : Int)]) ((onesTo ws n).length + 1)]) [.grow 1 [.int .i64 (n : Int)] 1] (by simp)
        (UOk.append (UOk.refl _ _) ⟨.inr (by simp [underB, underL, underD]), .inl (bkeep.refl _), .inl (bkeep.refl _), .inr ?_, trivial⟩) (.inl (.inr ⟨by simp, ?_⟩))
      · rw [← i64s_snoc]; exact underL_i64s _ _
      · rw [i64s_snoc, List.length_append]; rfl
  · rintro d h' ((⟨he, rfl⟩ | ⟨he, rfl⟩) | hf)
    · refine ⟨.ready, none, by simp (disch := first | omega | (simp only [List.length_append, List.length_cons, List.length_nil]; omega)) only [go_sem, ↓reduceIte, reduceCtorEq, Nat.reduceAdd, Nat.reduceSub, Nat.reducePow, Nat.reduceMul, Nat.reduceEqDiff, Nat.reduceLT, Nat.reduceLeDiff, Int.reduceToNat, Int.reduceLT, Int.reduceLE, Int.reduceEq, Int.reduceNeg, Int.reduceAdd, Int.reduceSub, Int.reduceMul], by simp, ?_⟩
      subst hT
      simp (disch := first | omega | (simp only [List.length_append, List.length_cons, List.length_nil]; omega)) only [go_sem, ↓reduceIte, reduceCtorEq, Nat.reduceAdd, Nat.reduceSub, Nat.reducePow, Nat.reduceMul, Nat.reduceEqDiff, Nat.reduceLT, Nat.reduceLeDiff, Int.reduceToNat, Int.reduceLT, Int.reduceLE, Int.reduceEq, Int.reduceNeg, Int.reduceAdd, Int.reduceSub, Int.reduceMul]
      exact FinOk.drop (.inl rfl) (by simp [underL, underD]) (.inl ⟨rfl, he, rfl⟩)
    · refine ⟨.ready, none, by simp (disch := first | omega | (simp only [List.length_append, List.length_cons, List.length_nil]; omega)) only [go_sem, ↓reduceIte, reduceCtorEq, Nat.reduceAdd, Nat.reduceSub, Nat.reducePow, Nat.reduceMul, Nat.reduceEqDiff, Nat.reduceLT, Nat.reduceLeDiff, Int.reduceToNat, Int.reduceLT, Int.reduceLE, Int.reduceEq, Int.reduceNeg, Int.reduceAdd, Int.reduceSub, Int.reduceMul], by simp, ?_⟩
      subst hT
      simp (disch := first | omega | (simp only [List.length_append, List.length_cons, List.length_nil]; omega)) only [go_sem, ↓reduceIte, reduceCtorEq, Nat.reduceAdd, Nat.reduceSub, Nat.reducePow, Nat.reduceMul, Nat.reduceEqDiff, Nat.reduceLT, Nat.reduceLeDiff, Int.reduceToNat, Int.reduceLT, Int.reduceLE, Int.reduceEq, Int.reduceNeg, Int.reduceAdd, Int.reduceSub, Int.reduceMul]
      exact FinOk.one (pre := []) (post := []) (.inl rfl) (by omega) (by rw [Nat.add_sub_cancel_left]; rfl) (underL_i64s _ _) rfl rfl (.inr ⟨rfl, rfl⟩)
    · exact hf.elim
end Go.Proofs
