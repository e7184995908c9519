import Derived.Test.YtecmopdncgekhaaMt
/-
  Own work. The walk of trie: Find.
-/
namespace Go.Proofs
open Go Go.Ytecmopdncgekhaa
set_option linter.unusedVariables false
set_option linter.unusedSimpArgs false
set_option maxRecDepth 10000

/-! ### (*weighbridge/trie.Trie).Find, params 3 -/
def c11r0 : List AStm := [.op (some 5) none (.box (.t 2)),
    .op (some 6) none (.mv (.c .nils))]
def c11r1 : List AStm := [.op (some 11) none (.mv (.t 0)),
    .call (some 12) none (.c (.fn (.func 9) [] [])) [(.t 11)],
    .call (some 13) none (.c (.fn (.func 24) [] [])) [(.t 12)],
    .op (some 7) none (.alloc [.nils]),
    .op none none (.store 1 (.t 7) (.t 13))]
def c11r2 : List AStm := [.op (some 14) none (.mv (.t 0)),
    .op (some 15) none (.mv (.t 1)),
    .op (some 16) none (.load (some 16) (.t 5)),
    .call (some 17) none (.c (.fn (.func 25) [] [])) [(.t 14), (.t 15), (.t 16)]]
def c11r3 : List AStm := [.op (some 8) none (.mv (.t 18))]
def c11r4 : List AStm := [.op (some 19) none (.mv (.t 8)),
    .op (some 20) none (.nilchk (.t 19)),
    .op (some 21) none (.faddr 0 (.t 20)),
    .op (some 22) none (.load none (.t 21)),
    .op (some 23) none (.len false (.t 22)),
    .op (some 24) none (.mv (.c (.int .i64 0)))]
def c11r5 : List AStm := [.op (some 25) none (.bin .lss (.t 24) (.t 23))]
def c11r6 : List AStm := [.op (some 26) none (.ixs 1 (.t 22) (.t 24)),
    .op (some 27) none (.load none (.t 26)),
    .op (some 10) none (.mv (.t 27))]
def c11r7 : List AStm := [.op (some 28) none (.load none (.t 7)),
    .op (some 29) none (.mv (.t 10)),
    .op (some 30) none (.bin .quo (.t 29) (.c (.int .i64 64))),
    .op (some 31) none (.ixs 1 (.t 28) (.t 30)),
    .op (some 32) none (.load none (.t 31)),
    .op (some 33) none (.mv (.t 10)),
    .op (some 34) none (.bin .rem (.t 33) (.c (.int .i64 64))),
    .op (some 35) none (.conv .u64 (.t 34)),
    .op (some 36) none (.bin .shl (.c (.int .u64 1)) (.t 35)),
    .op (some 37) none (.bin .or (.t 32) (.t 36)),
    .op (some 38) none (.ixs 1 (.t 28) (.t 30)),
    .op none none (.store 1 (.t 38) (.t 37))]
def c11r8 : List AStm := [.op (some 39) none (.bin .add (.t 24) (.c (.int .i64 1))),
    .op (some 24) none (.mv (.t 39))]
def c11l9 : AC := .seq (.reg c11r5) (.seq (.cond (.t 25) (.skip) (.exit 2)) (.seq (.block 3 (.seq (.reg c11r6) (.reg c11r7))) (.reg c11r8)))
def c11l10 : AC := .reg c11r3
def c11l11 : AC := .block 1 (.seq (.reg c11r4) (.block 2 (.loop c11l9)))
def c11r12 : List AStm := [.op (some 40) none (.load none (.t 7)),
    .op (some 6) none (.mv (.t 40))]
def c11 : CF := ⟨.seq (.reg c11r0) (.seq (.reg c11r1) (.seq (.seq (.reg c11r2) (.block 0 (.rfunc (.t 17) [18] c11l10 c11l11))) (.seq (.reg c11r12) (.ret)))), [.tmp 6], 41⟩
theorem cf11 : cfun Try.prog 11 = some c11 := by kernel_rfl



theorem end_sl {h : Heap} {T many : Nat} {ns : List Nd} {E : Nat → List Bool → List Nat} (t : TrieAt h T ns E many) {q : Nd} (hq : q ∈ ns) : SlOf h 1 (endD (E q.k q.s) q.e) (i64s (E q.k q.s)) (E q.k q.s).length := by
  by_cases h0 : E q.k q.s = []
  · rw [h0]
    exact nils_of _ _
  · have := t.en q hq h0
    unfold endD
    rw [if_neg h0]
    exact own_of this (by rw [i64s_length]; omega)
/-- What ends at the first nodes of the way. -/
def visit (E : Nat → List Bool → List Nat) (v : Int) (a : List UInt8) (d : Nat) : List Nat := (List.range d).flatMap fun m => E (rootN v) (pathA a m)
theorem visit_succ (E : Nat → List Bool → List Nat) (v : Int) (a : List UInt8) (d : Nat) : visit E v a (d + 1) = visit E v a d ++ E (rootN v) (pathA a d) := by
  unfold visit; rw [List.range_succ, List.flatMap_append]; simp
def putW (ws : List Nat) (l : List Nat) : List Nat := l.foldl (fun ws (k : Nat) => setR ws (k : Int)) ws
theorem putW_length (ws l : List Nat) : (putW ws l).length = ws.length := putF_length l ws
theorem putW_snoc (ws l : List Nat) (k : Nat) : putW ws (l ++ [k]) = setR (putW ws l) (k : Int) := by simp [putW]
theorem putW_app (ws l m : List Nat) : putW ws (l ++ m) = putW (putW ws l) m := by simp [putW]
theorem putW_words {ws : List Nat} (l : List Nat) (h : Words ws) : Words (putW ws l) := putF_words l ws h

theorem find_fc (h : Heap) (T many : Nat) (ns : List Nd) (E : Nat → List Bool → List Nat) (t : TrieAt h T ns E many) (hm : many ≤ 65536) (hns : many = 0 → ns = []) (hE : ∀ k s, ∀ i ∈ E k s, i < many)
    (hEl : ∀ k s, (E k s).length ≤ 1048576) (v : Int) (a : List UInt8) (ha : a.length = 16) :
    FC Try.prog 11 [.ref T 0, .int .i64 v, .agg (ofBytes a)] h fun d h' => ∃ n, WayEnd ns v a n ∧ Made h (putL ((many + 63) / 64) (visit E v a n)) d h' := by
  have hal2 : (ofBytes a).length = 16 := by rw [ofBytes_length, ha]
  have hat : (ofBytes a).take 16 = ofBytes a := List.take_of_length_le (by omega)
  have l16 : 16 ≤ (ofBytes a).length := by omega
  have hlT : laid (.ref T 0) = true := rfl
  refine FC.goes cf11 ?_; simp only [c11]; simp only [List.length_cons, List.length_nil, Nat.reduceAdd, Nat.reduceSub, List.replicate_succ, List.replicate_zero, List.cons_append, List.nil_append]
  simp (disch := first | omega | (simp only [List.length_append, List.length_cons, List.length_nil]; omega)) only [c11r0, c11r1, c11r2, c11r3, c11r4, c11r5, c11r6, c11r7, c11r8, c11l9, c11l10, c11l11, c11r12, go_sem, ↓reduceIte, reduceCtorEq, Nat.reduceAdd, Nat.reduceSub, Nat.reducePow, Nat.reduceMul, Nat.reduceEqDiff, Nat.reduceLT, Nat.reduceLeDiff, Int.reduceToNat, Int.reduceLT, Int.reduceLE, Int.reduceEq, Int.reduceNeg, Int.reduceAdd, Int.reduceSub, Int.reduceMul]
  have E0 : Ext h (h ++ [.box (ofBytes a)]) := ⟨_, rfl⟩
  refine gfc_of (Len_fc _ T many ns E (t.ext E0)) ?_
  rintro d h' ⟨rfl, e⟩
  rw [e]
  simp (disch := first | omega | (simp only [List.length_append, List.length_cons, List.length_nil]; omega)) only [go_sem, ↓reduceIte, reduceCtorEq, Nat.reduceAdd, Nat.reduceSub, Nat.reducePow, Nat.reduceMul, Nat.reduceEqDiff, Nat.reduceLT, Nat.reduceLeDiff, Int.reduceToNat, Int.reduceLT, Int.reduceLE, Int.reduceEq, Int.reduceNeg, Int.reduceAdd, Int.reduceSub, Int.reduceMul]
  refine gfc_of (new_fc _ (many : Int) (by omega) (by omega)) ?_
  have hnew : newR (many : Int) = List.replicate ((many + 63) / 64) 0 := by
    unfold newR
    rw [if_neg (by omega), Int.toNat_natCast]
  rw [hnew, List.length_replicate]
  rintro d h' (⟨rfl, hc, hn0, rfl⟩ | ⟨rfl, rfl⟩)
  · have hm0 : many = 0 := by omega
    have hns0 := hns hm0
    subst hns0
    simp (disch := first | omega | (simp only [List.length_append, List.length_cons, List.length_nil]; omega)) only [fillD, splice0, hat, go_sem, ↓reduceIte, reduceCtorEq, Nat.reduceAdd, Nat.reduceSub, Nat.reducePow, Nat.reduceMul, Nat.reduceEqDiff, Nat.reduceLT, Nat.reduceLeDiff, Int.reduceToNat, Int.reduceLT, Int.reduceLE, Int.reduceEq, Int.reduceNeg, Int.reduceAdd, Int.reduceSub, Int.reduceMul]
    refine gfc_of (way_fc _ (.ref T 0) rfl rfl v a ha) ?_
    rintro d h' ⟨rfl, rfl⟩
    simp (disch := first | omega | (simp only [List.length_append, List.length_cons, List.length_nil]; omega)) only [go_sem, ↓reduceIte, reduceCtorEq, Nat.reduceAdd, Nat.reduceSub, Nat.reducePow, Nat.reduceMul, Nat.reduceEqDiff, Nat.reduceLT, Nat.reduceLeDiff, Int.reduceToNat, Int.reduceLT, Int.reduceLE, Int.reduceEq, Int.reduceNeg, Int.reduceAdd, Int.reduceSub, Int.reduceMul]
    refine gr_of 0 fun u w cu cv => ?_
    simp (disch := first | omega | (simp only [List.length_append, List.length_cons, List.length_nil]; omega)) only [List.replicate_zero, go_sem, ↓reduceIte, reduceCtorEq, Nat.reduceAdd, Nat.reduceSub, Nat.reducePow, Nat.reduceMul, Nat.reduceEqDiff, Nat.reduceLT, Nat.reduceLeDiff, Int.reduceToNat, Int.reduceLT, Int.reduceLE, Int.reduceEq, Int.reduceNeg, Int.reduceAdd, Int.reduceSub, Int.reduceMul]
    simp only [Nat.add_assoc, Nat.reduceAdd, List.append_assoc, List.cons_append, List.nil_append]
    generalize hT : ([.ref T 0, .int .i64 v, .agg (ofBytes a), .any, .any, .ref (List.length h) 0, .nils, .ref (List.length h + 1) 0, .any, .any, .any, .ref T 0, .int .i64 (many : Int), .nils, .ref T 0,
        .int .i64 v, .agg (ofBytes a), .fn (.func 40) [] [.ref (List.length h + 3) 0, .ref (List.length h + 2) 0, .ref (List.length h + 4) 0], .any, .any, .any, .any, .any, .any, .any, .any, .any, .any, .any, .any, .any, .any, .any, .any, .any, .any, .any, .any, .any, .any, .any] : List D) = Tm
    refine (way1_fc (I := fun d h' => h' = h ++ [.box (ofBytes a), .box [.nils], .box [.ref T 0], .box [.int .i64 v], .box (ofBytes a), .recb .ready Tm [18] u w none]) T many [] E v a ha _ _ _ _ _ rfl ?_ ?_).mono ?_
    · rintro d h' rfl
      exact ⟨t.ext ⟨_, rfl⟩, by simp (disch := first | omega | (simp only [List.length_append, List.length_cons, List.length_nil]; omega)) only [go_sem, ↓reduceIte, reduceCtorEq, Nat.reduceAdd, Nat.reduceSub, Nat.reducePow, Nat.reduceMul, Nat.reduceEqDiff, Nat.reduceLT, Nat.reduceLeDiff, Int.reduceToNat, Int.reduceLT, Int.reduceLE, Int.reduceEq, Int.reduceNeg, Int.reduceAdd, Int.reduceSub, Int.reduceMul], by simp (disch := first | omega | (simp only [List.length_append, List.length_cons, List.length_nil]; omega)) only [go_sem, ↓reduceIte, reduceCtorEq, Nat.reduceAdd, Nat.reduceSub, Nat.reducePow, Nat.reduceMul, Nat.reduceEqDiff, Nat.reduceLT, Nat.reduceLeDiff, Int.reduceToNat, Int.reduceLT, Int.reduceLE, Int.reduceEq, Int.reduceNeg, Int.reduceAdd, Int.reduceSub, Int.reduceMul], by simp (disch := first | omega | (simp only [List.length_append, List.length_cons, List.length_nil]; omega)) only [go_sem, ↓reduceIte, reduceCtorEq, Nat.reduceAdd, Nat.reduceSub, Nat.reducePow, Nat.reduceMul, Nat.reduceEqDiff, Nat.reduceLT, Nat.reduceLeDiff, Int.reduceToNat, Int.reduceLT, Int.reduceLE, Int.reduceEq, Int.reduceNeg, Int.reduceAdd, Int.reduceSub, Int.reduceMul]⟩
    · intro d q h' _ _ hq
      simp at hq
    · rintro d h' ⟨n, rfl, hw⟩
      refine ⟨.ready, none, by simp (disch := first | omega | (simp only [List.length_append, List.length_cons, List.length_nil]; omega)) only [go_sem, ↓reduceIte, reduceCtorEq, Nat.reduceAdd, Nat.reduceSub, Nat.reducePow, Nat.reduceMul, Nat.reduceEqDiff, Nat.reduceLT, Nat.reduceLeDiff, Int.reduceToNat, Int.reduceLT, Int.reduceLE, Int.reduceEq, Int.reduceNeg, Int.reduceAdd, Int.reduceSub, Int.reduceMul], by simp, ?_⟩
      subst hT
      simp (disch := first | omega | (simp only [List.length_append, List.length_cons, List.length_nil]; omega)) only [go_sem, ↓reduceIte, reduceCtorEq, Nat.reduceAdd, Nat.reduceSub, Nat.reducePow, Nat.reduceMul, Nat.reduceEqDiff, Nat.reduceLT, Nat.reduceLeDiff, Int.reduceToNat, Int.reduceLT, Int.reduceLE, Int.reduceEq, Int.reduceNeg, Int.reduceAdd, Int.reduceSub, Int.reduceMul]
      refine FinOk.all ⟨n, hw, ⟨_, rfl⟩, ?_⟩
      have : putL ((many + 63) / 64) (visit E v a n) = [] := List.eq_nil_of_length_eq_zero (by rw [putL_length]; exact hn0)
      rw [this]
      exact nils_of _ _
  · simp (disch := first | omega | (simp only [List.length_append, List.length_cons, List.length_nil]; omega)) only [fillD, splice0, hat, go_sem, ↓reduceIte, reduceCtorEq, Nat.reduceAdd, Nat.reduceSub, Nat.reducePow, Nat.reduceMul, Nat.reduceEqDiff, Nat.reduceLT, Nat.reduceLeDiff, Int.reduceToNat, Int.reduceLT, Int.reduceLE, Int.reduceEq, Int.reduceNeg, Int.reduceAdd, Int.reduceSub, Int.reduceMul]
    refine gfc_of (way_fc _ (.ref T 0) rfl rfl v a ha) ?_
    rintro d h' ⟨rfl, rfl⟩
    simp (disch := first | omega | (simp only [List.length_append, List.length_cons, List.length_nil]; omega)) only [go_sem, ↓reduceIte, reduceCtorEq, Nat.reduceAdd, Nat.reduceSub, Nat.reducePow, Nat.reduceMul, Nat.reduceEqDiff, Nat.reduceLT, Nat.reduceLeDiff, Int.reduceToNat, Int.reduceLT, Int.reduceLE, Int.reduceEq, Int.reduceNeg, Int.reduceAdd, Int.reduceSub, Int.reduceMul]
    refine gr_of 0 fun u w cu cv => ?_
    simp (disch := first | omega | (simp only [List.length_append, List.length_cons, List.length_nil]; omega)) only [List.replicate_zero, go_sem, ↓reduceIte, reduceCtorEq, Nat.reduceAdd, Nat.reduceSub, Nat.reducePow, Nat.reduceMul, Nat.reduceEqDiff, Nat.reduceLT, Nat.reduceLeDiff, Int.reduceToNat, Int.reduceLT, Int.reduceLE, Int.reduceEq, Int.reduceNeg, Int.reduceAdd, Int.reduceSub, Int.reduceMul]
    simp only [Nat.add_assoc, Nat.reduceAdd, List.append_assoc, List.cons_append, List.nil_append]
    generalize hT : ([.ref T 0, .int .i64 v, .agg (ofBytes a), .any, .any, .ref (List.length h) 0, .nils, .ref (List.length h + 2) 0, .any, .any, .any, .ref T 0, .int .i64 (many : Int), .own (List.length h + 1) ((many + 63) / 64), .ref T 0,
        .int .i64 v, .agg (ofBytes a), .fn (.func 40) [] [.ref (List.length h + 4) 0, .ref (List.length h + 3) 0, .ref (List.length h + 5) 0], .any, .any, .any, .any, .any, .any, .any, .any, .any, .any, .any, .any, .any, .any, .any, .any, .any, .any, .any, .any, .any, .any, .any] : List D) = Tm
    generalize hZ : List.replicate ((many + 63) / 64) 0 = zs
    have hzl : zs.length = (many + 63) / 64 := by rw [← hZ, List.length_replicate]
    have hzw : Words zs := by rw [← hZ]; exact zero_words _
    refine (way1_fc (I := fun d h' => h' = h ++ [.box (ofBytes a), .grow 1 (u64s (putW zs (visit E v a d))) ((many + 63) / 64), .box [.own (h.length + 1) ((many + 63) / 64)], .box [.ref T 0], .box [.int .i64 v], .box (ofBytes a), .recb .ready Tm [18] u w none]) T many ns E v a ha _ _ _ _ _ rfl ?_ ?_).mono ?_
    · rintro d h' rfl
      exact ⟨t.ext ⟨_, rfl⟩, by simp (disch := first | omega | (simp only [List.length_append, List.length_cons, List.length_nil]; omega)) only [go_sem, ↓reduceIte, reduceCtorEq, Nat.reduceAdd, Nat.reduceSub, Nat.reducePow, Nat.reduceMul, Nat.reduceEqDiff, Nat.reduceLT, Nat.reduceLeDiff, Int.reduceToNat, Int.reduceLT, Int.reduceLE, Int.reduceEq, Int.reduceNeg, Int.reduceAdd, Int.reduceSub, Int.reduceMul], by simp (disch := first | omega | (simp only [List.length_append, List.length_cons, List.length_nil]; omega)) only [go_sem, ↓reduceIte, reduceCtorEq, Nat.reduceAdd, Nat.reduceSub, Nat.reducePow, Nat.reduceMul, Nat.reduceEqDiff, Nat.reduceLT, Nat.reduceLeDiff, Int.reduceToNat, Int.reduceLT, Int.reduceLE, Int.reduceEq, Int.reduceNeg, Int.reduceAdd, Int.reduceSub, Int.reduceMul], by simp (disch := first | omega | (simp only [List.length_append, List.length_cons, List.length_nil]; omega)) only [go_sem, ↓reduceIte, reduceCtorEq, Nat.reduceAdd, Nat.reduceSub, Nat.reducePow, Nat.reduceMul, Nat.reduceEqDiff, Nat.reduceLT, Nat.reduceLeDiff, Int.reduceToNat, Int.reduceLT, Int.reduceLE, Int.reduceEq, Int.reduceNeg, Int.reduceAdd, Int.reduceSub, Int.reduceMul]⟩
    · rintro d q h' hd hrb hq hqi rfl
      have hqb : ∀ L : Heap, (h ++ L)[q.b]? = some (.box [endD (E q.k q.s) q.e, kidD ns q.k (q.s ++ [false]), kidD ns q.k (q.s ++ [true])]) := fun L => (Ext.app (Ext.refl h) L).get (t.nd q hq)
      have hEn : E (rootN v) (pathA a d) = E q.k q.s := by rw [hqi.1, hqi.2]
      have hel := hEl q.k q.s
      have hEq := hE q.k q.s
      have hsl : ∀ L : Heap, lenD (h ++ L) (endD (E q.k q.s) q.e) = some (E q.k q.s).length := fun L => (SlOf.low (end_sl t hq) L).lend
      have hso : (endD (E q.k q.s) q.e).sortOf = 2 := (end_sl t hq).sort
      have hen := t.en q hq
      have hvis := visit_succ E v a d
      rw [hEn] at hvis
      refine YC.goes (T := Tm) (ps := [18]) cu cv (by simp (disch := first | omega | (simp only [List.length_append, List.length_cons, List.length_nil]; omega)) only [go_sem, ↓reduceIte, reduceCtorEq, Nat.reduceAdd, Nat.reduceSub, Nat.reducePow, Nat.reduceMul, Nat.reduceEqDiff, Nat.reduceLT, Nat.reduceLeDiff, Int.reduceToNat, Int.reduceLT, Int.reduceLE, Int.reduceEq, Int.reduceNeg, Int.reduceAdd, Int.reduceSub, Int.reduceMul]) rfl rfl rfl ?_
      subst hT
      simp (disch := first | omega | (simp only [List.length_append, List.length_cons, List.length_nil]; omega)) only [setps, List.zip_cons_cons, List.zip_nil_right, List.foldl_cons, List.foldl_nil, hqb, hsl, hso, go_sem, ↓reduceIte, reduceCtorEq, Nat.reduceAdd, Nat.reduceSub, Nat.reducePow, Nat.reduceMul, Nat.reduceEqDiff, Nat.reduceLT, Nat.reduceLeDiff, Int.reduceToNat, Int.reduceLT, Int.reduceLE, Int.reduceEq, Int.reduceNeg, Int.reduceAdd, Int.reduceSub, Int.reduceMul]
      generalize hT : ([.ref T 0, .int .i64 v, .agg (ofBytes a), .any, .any, .ref (List.length h) 0, .nils, .ref (List.length h + 2) 0, .any, .any, .any, .ref T 0, .int .i64 (many : Int), .own (List.length h + 1) ((many + 63) / 64), .ref T 0,
        .int .i64 v, .agg (ofBytes a), .fn (.func 40) [] [.ref (List.length h + 4) 0, .ref (List.length h + 3) 0, .ref (List.length h + 5) 0], .any, .any, .any, .any, .any, .any, .any, .any, .any, .any, .any, .any, .any, .any, .any, .any, .any, .any, .any, .any, .any, .any, .any] : List D) = Tm
      generalize hl0 : E q.k q.s = l0 at *
      refine loop_to l0.length (fun m st => ∃ (j : Nat → D), st = ⟨(j 0 :: j 1 :: j 2 :: j 3 :: j 4 :: j 5 :: j 6 :: .ref (h.length + 2) 0 :: j 8 :: j 9 :: j 10 :: j 11 :: j 12 :: j 13 :: j 14 :: j 15 :: j 16 :: j 17 :: j 18 :: j 19 :: j 20 :: j 21 :: endD l0 q.e :: .int .i64 (l0.length : Int) :: .int .i64 (m : Int) :: j 25 :: j 26 :: j 27 :: j 28 :: j 29 :: j 30 :: j 31 :: j 32 :: j 33 :: j 34 :: j 35 :: j 36 :: j 37 :: j 38 :: j 39 :: j 40 :: []), h ++ [.box (ofBytes a), .grow 1 (u64s (putW (putW zs (visit E v a d)) (l0.take m))) ((many + 63) / 64), .box [.own (h.length + 1) ((many + 63) / 64)], .box [.ref T 0], .box [.int .i64 v], .box (ofBytes a), .recb .busy Tm [18] u w none]⟩) (junk rfl) ?_
      rintro m st hm2 ⟨j, rfl⟩
      by_cases hml : m < l0.length
      · have hml' : (m : Int) < l0.length := by omega
        have hne : l0 ≠ [] := by intro hh; rw [hh] at hml; simp at hml
        have hed : endD l0 q.e = .own q.e l0.length := by unfold endD; rw [if_neg hne]
        have hen1 : ∀ L : Heap, (h ++ L)[q.e]? = some (.grow 1 (i64s l0) l0.length) := fun L => (Ext.app (Ext.refl h) L).get (hen hne)
        have hx := hEq l0[m] (List.getElem_mem hml)
        have hxm : (List.drop m (i64s l0))[0]? = some (.int .i64 ((l0[m] : Nat) : Int)) := by
          rw [List.getElem?_drop, Nat.add_zero, i64s, List.getElem?_map, List.getElem?_eq_getElem hml]; rfl
        have htk : l0.take (m + 1) = l0.take m ++ [l0[m]] := by rw [List.take_add_one, List.getElem?_eq_getElem hml]; rfl
        have hww := putW_words (l0.take m) (putW_words (visit E v a d) hzw)
        have hwl : (putW (putW zs (visit E v a d)) (l0.take m)).length = (many + 63) / 64 := by rw [putW_length, putW_length, hzl]
        have hsn := putW_snoc (putW zs (visit E v a d)) (l0.take m) l0[m]
        rw [← htk] at hsn
        rw [hed, hsn]
        generalize putW (putW zs (visit E v a d)) (l0.take m) = ws at *
        generalize l0[m] = x at *
        have hlt : x / 64 < ws.length := by omega
        have hwk : ws.getD (x / 64) 0 < 18446744073709551616 := hww _ (by simp [List.getD_eq_getElem?_getD, List.getElem?_eq_getElem hlt])
        have e1 : IntKind.i64.wrap ((x / 64 : Nat) : Int) = ((x / 64 : Nat) : Int) := w_i64 (by omega) (by omega)
        have e3 : IntKind.u64.wrap ((x % 64 : Nat) : Int) = ((x % 64 : Nat) : Int) := w_u64 (by omega) (by omega)
        have q4 : (List.drop (x / 64) (u64s ws))[0]? = some (.int .u64 ((ws.getD (x / 64) 0 : Nat) : Int)) := by
          rw [List.getElem?_drop, Nat.add_zero, u64s_get hlt]
        have hp : 2 ^ (x % 64) < 18446744073709551616 := Nat.lt_of_lt_of_eq (Nat.pow_lt_pow_right (n := 64) (by omega) (by omega)) (by rfl)
        have a1 : arith .shl (.int .u64 1) (.int .u64 ((x % 64 : Nat) : Int)) = some (.int .u64 ((2 ^ (x % 64) : Nat) : Int)) := by
          have := shl_u64 (x := 1) (k' := .u64) (b := ((x % 64 : Nat) : Int)) (by omega) (by omega)
          rw [Nat.one_mul, Int.toNat_natCast, w_u64 (Int.natCast_nonneg _) (Int.ofNat_lt.2 hp)] at this
          exact this
        have a2 := or_u64 (x := ws.getD (x / 64) 0) (y := 2 ^ (x % 64)) hwk hp
        have hset : u64s (setR ws (x : Int)) = (u64s ws).set (x / 64) (.int .u64 ((ws.getD (x / 64) 0 ||| 2 ^ (x % 64) : Nat) : Int)) := by
          rw [setR_nat hlt]
          exact u64s_set _ _ _
        have hul := u64s_length ws
        have e5 : IntKind.i64.wrap ((m : Int) + 1) = ((m + 1 : Nat) : Int) := by rw [w_i64 (by omega) (by omega)]; omega
        have hbnd : ((x / 64 : Nat) : Int) < (((many + 63) / 64 : Nat) : Int) := by omega
        simp (disch := first | omega | (simp only [List.length_append, List.length_cons, List.length_nil]; omega)) only [hml', hen1, hxm, e1, e3, q4, a1, a2, hul, hbnd, e5, go_sem, ↓reduceIte, reduceCtorEq, Nat.reduceAdd, Nat.reduceSub, Nat.reducePow, Nat.reduceMul, Nat.reduceEqDiff, Nat.reduceLT, Nat.reduceLeDiff, Int.reduceToNat, Int.reduceLT, Int.reduceLE, Int.reduceEq, Int.reduceNeg, Int.reduceAdd, Int.reduceSub, Int.reduceMul]
        rw [hset]
        exact ⟨hml, junk rfl⟩
      · have hml' : ¬ (m : Int) < l0.length := by omega
        have : m = l0.length := by omega
        subst this
        have hfin : putW (putW zs (visit E v a d)) (l0.take l0.length) = putW zs (visit E v a (d + 1)) := by rw [List.take_length, ← putW_app, ← hvis]
        rw [hfin]
        simp (disch := first | omega | (simp only [List.length_append, List.length_cons, List.length_nil]; omega)) only [hml', po_rN, go_sem, ↓reduceIte, reduceCtorEq, Nat.reduceAdd, Nat.reduceSub, Nat.reducePow, Nat.reduceMul, Nat.reduceEqDiff, Nat.reduceLT, Nat.reduceLeDiff, Int.reduceToNat, Int.reduceLT, Int.reduceLE, Int.reduceEq, Int.reduceNeg, Int.reduceAdd, Int.reduceSub, Int.reduceMul]
        refine Drops.of _ [] (List.append_nil _).symm (UOk.append (UOk.refl _ _) ⟨.inl (bkeep.refl _), .inr ?_, .inl (bkeep.refl _), .inl (bkeep.refl _), .inl (bkeep.refl _), .inl (bkeep.refl _), .inl (bkeep.refl _), trivial⟩) rfl
        exact under_u64s _ _
    · rintro d h' ⟨n, rfl, hw⟩
      refine ⟨.ready, none, by simp (disch := first | omega | (simp only [List.length_append, List.length_cons, List.length_nil]; omega)) only [go_sem, ↓reduceIte, reduceCtorEq, Nat.reduceAdd, Nat.reduceSub, Nat.reducePow, Nat.reduceMul, Nat.reduceEqDiff, Nat.reduceLT, Nat.reduceLeDiff, Int.reduceToNat, Int.reduceLT, Int.reduceLE, Int.reduceEq, Int.reduceNeg, Int.reduceAdd, Int.reduceSub, Int.reduceMul], by simp, ?_⟩
      subst hT
      simp (disch := first | omega | (simp only [List.length_append, List.length_cons, List.length_nil]; omega)) only [go_sem, ↓reduceIte, reduceCtorEq, Nat.reduceAdd, Nat.reduceSub, Nat.reducePow, Nat.reduceMul, Nat.reduceEqDiff, Nat.reduceLT, Nat.reduceLeDiff, Int.reduceToNat, Int.reduceLT, Int.reduceLE, Int.reduceEq, Int.reduceNeg, Int.reduceAdd, Int.reduceSub, Int.reduceMul]
      refine FinOk.all ⟨n, hw, ⟨_, rfl⟩, ?_⟩
      have : putL ((many + 63) / 64) (visit E v a n) = putW zs (visit E v a n) := by rw [← hZ]; rfl
      rw [this]
      have hl9 : (putW zs (visit E v a n)).length = (many + 63) / 64 := by rw [putW_length, hzl]
      unfold RowOf
      rw [hl9]
      exact own_of (by simp (disch := first | omega | (simp only [List.length_append, List.length_cons, List.length_nil]; omega)) only [go_sem, ↓reduceIte, reduceCtorEq, Nat.reduceAdd, Nat.reduceSub, Nat.reducePow, Nat.reduceMul, Nat.reduceEqDiff, Nat.reduceLT, Nat.reduceLeDiff, Int.reduceToNat, Int.reduceLT, Int.reduceLE, Int.reduceEq, Int.reduceNeg, Int.reduceAdd, Int.reduceSub, Int.reduceMul]) (by rw [u64s_length, hl9, Nat.mul_one])
end Go.Proofs

/-
  Own work. The walk of trie: Longest.
-/
namespace Go.Proofs
open Go Go.Ytecmopdncgekhaa
set_option linter.unusedVariables false
set_option linter.unusedSimpArgs false
set_option maxRecDepth 10000

/-! ### (*weighbridge/trie.Trie).Longest, params 3 -/
def c13r0 : List AStm := [.op (some 5) none (.box (.t 2)),
    .op (some 6) none (.mv (.c (.int .i64 0)))]
def c13r1 : List AStm := [.op (some 7) none (.alloc [(.int .i64 0)]),
    .op none none (.store 1 (.t 7) (.c (.int .i64 (-1))))]
def c13r2 : List AStm := [.op (some 9) none (.mv (.t 0)),
    .op (some 10) none (.mv (.t 1)),
    .op (some 11) none (.load (some 16) (.t 5)),
    .call (some 12) none (.c (.fn (.func 25) [] [])) [(.t 9), (.t 10), (.t 11)]]
def c13r3 : List AStm := [.op (some 8) none (.mv (.t 13))]
def c13r4 : List AStm := [.op (some 14) none (.mv (.t 8)),
    .op (some 15) none (.nilchk (.t 14)),
    .op (some 16) none (.faddr 0 (.t 15)),
    .op (some 17) none (.load none (.t 16)),
    .op (some 18) none (.len false (.t 17)),
    .op (some 19) none (.bin .gtr (.t 18) (.c (.int .i64 0)))]
def c13r5 : List AStm := [.op (some 20) none (.mv (.t 8)),
    .op (some 21) none (.nilchk (.t 20)),
    .op (some 22) none (.faddr 0 (.t 21)),
    .op (some 23) none (.load none (.t 22)),
    .op (some 24) none (.ixs 1 (.t 23) (.c (.int .i64 0))),
    .op (some 25) none (.load none (.t 24)),
    .op none none (.store 1 (.t 7) (.t 25))]
def c13l6 : AC := .reg c13r3
def c13l7 : AC := .block 1 (.seq (.reg c13r4) (.cond (.t 19) (.reg c13r5) (.skip)))
def c13r8 : List AStm := [.op (some 26) none (.load none (.t 7)),
    .op (some 6) none (.mv (.t 26))]
def c13 : CF := ⟨.seq (.reg c13r0) (.seq (.reg c13r1) (.seq (.seq (.reg c13r2) (.block 0 (.rfunc (.t 12) [13] c13l6 c13l7))) (.seq (.reg c13r8) (.ret)))), [.tmp 6], 27⟩
theorem cf13 : cfun Try.prog 13 = some c13 := by kernel_rfl



/-- The first of those that end at the last node at which any ends. -/
def longB (E : Nat → List Bool → List Nat) (v : Int) (a : List UInt8) : Nat → Int
  | 0 => -1
  | d + 1 => match E (rootN v) (pathA a d) with
    | [] => longB E v a d
    | x :: _ => (x : Int)

theorem longest_fc (h : Heap) (T many : Nat) (ns : List Nd) (E : Nat → List Bool → List Nat) (t : TrieAt h T ns E many)
    (hEl : ∀ k s, (E k s).length ≤ 1048576) (v : Int) (a : List UInt8) (ha : a.length = 16) :
    FC Try.prog 13 [.ref T 0, .int .i64 v, .agg (ofBytes a)] h fun d h' => ∃ n, WayEnd ns v a n ∧ d = .int .i64 (longB E v a n) ∧ h' = h := by
  have hal2 : (ofBytes a).length = 16 := by rw [ofBytes_length, ha]
  have hat : (ofBytes a).take 16 = ofBytes a := List.take_of_length_le (by omega)
  have l16 : 16 ≤ (ofBytes a).length := by omega
  refine FC.goes cf13 ?_; simp only [c13]; simp only [List.length_cons, List.length_nil, Nat.reduceAdd, Nat.reduceSub, List.replicate_succ, List.replicate_zero, List.cons_append, List.nil_append]
  simp (disch := first | omega | (simp only [List.length_append, List.length_cons, List.length_nil]; omega)) only [c13r0, c13r1, c13r2, c13r3, c13r4, c13r5, c13l6, c13l7, c13r8, hat, fillD, splice0, go_sem, ↓reduceIte, reduceCtorEq, Nat.reduceAdd, Nat.reduceSub, Nat.reducePow, Nat.reduceMul, Nat.reduceEqDiff, Nat.reduceLT, Nat.reduceLeDiff, Int.reduceToNat, Int.reduceLT, Int.reduceLE, Int.reduceEq, Int.reduceNeg, Int.reduceAdd, Int.reduceSub, Int.reduceMul]
  refine gfc_of (way_fc _ (.ref T 0) rfl rfl v a ha) ?_
  rintro d h' ⟨rfl, rfl⟩
  simp (disch := first | omega | (simp only [List.length_append, List.length_cons, List.length_nil]; omega)) only [go_sem, ↓reduceIte, reduceCtorEq, Nat.reduceAdd, Nat.reduceSub, Nat.reducePow, Nat.reduceMul, Nat.reduceEqDiff, Nat.reduceLT, Nat.reduceLeDiff, Int.reduceToNat, Int.reduceLT, Int.reduceLE, Int.reduceEq, Int.reduceNeg, Int.reduceAdd, Int.reduceSub, Int.reduceMul]
  refine gr_of 0 fun u w cu cv => ?_
  simp (disch := first | omega | (simp only [List.length_append, List.length_cons, List.length_nil]; omega)) only [List.replicate_zero, go_sem, ↓reduceIte, reduceCtorEq, Nat.reduceAdd, Nat.reduceSub, Nat.reducePow, Nat.reduceMul, Nat.reduceEqDiff, Nat.reduceLT, Nat.reduceLeDiff, Int.reduceToNat, Int.reduceLT, Int.reduceLE, Int.reduceEq, Int.reduceNeg, Int.reduceAdd, Int.reduceSub, Int.reduceMul]
  simp only [Nat.add_assoc, Nat.reduceAdd, List.append_assoc, List.cons_append, List.nil_append]
  generalize hT : ([.ref T 0, .int .i64 v, .agg (ofBytes a), .any, .any, .ref (List.length h) 0, .int .i64 0, .ref (List.length h + 1) 0, .any, .ref T 0, .int .i64 v, .agg (ofBytes a), .fn (.func 40) [] [.ref (List.length h + 3) 0, .ref (List.length h + 2) 0, .ref (List.length h + 4) 0], .any, .any, .any, .any, .any, .any, .any, .any, .any, .any, .any, .any, .any, .any] : List D) = Tm
  refine (way1_fc (I := fun d h' => h' = h ++ [.box (ofBytes a), .box [.int .i64 (longB E v a d)], .box [.ref T 0], .box [.int .i64 v], .box (ofBytes a), .recb .ready Tm [13] u w none]) T many ns E v a ha _ _ _ _ _ rfl ?_ ?_).mono ?_
  · rintro d h' rfl
    exact ⟨t.ext ⟨_, rfl⟩, by simp (disch := first | omega | (simp only [List.length_append, List.length_cons, List.length_nil]; omega)) only [go_sem, ↓reduceIte, reduceCtorEq, Nat.reduceAdd, Nat.reduceSub, Nat.reducePow, Nat.reduceMul, Nat.reduceEqDiff, Nat.reduceLT, Nat.reduceLeDiff, Int.reduceToNat, Int.reduceLT, Int.reduceLE, Int.reduceEq, Int.reduceNeg, Int.reduceAdd, Int.reduceSub, Int.reduceMul], by simp (disch := first | omega | (simp only [List.length_append, List.length_cons, List.length_nil]; omega)) only [go_sem, ↓reduceIte, reduceCtorEq, Nat.reduceAdd, Nat.reduceSub, Nat.reducePow, Nat.reduceMul, Nat.reduceEqDiff, Nat.reduceLT, Nat.reduceLeDiff, Int.reduceToNat, Int.reduceLT, Int.reduceLE, Int.reduceEq, Int.reduceNeg, Int.reduceAdd, Int.reduceSub, Int.reduceMul], by simp (disch := first | omega | (simp only [List.length_append, List.length_cons, List.length_nil]; omega)) only [go_sem, ↓reduceIte, reduceCtorEq, Nat.reduceAdd, Nat.reduceSub, Nat.reducePow, Nat.reduceMul, Nat.reduceEqDiff, Nat.reduceLT, Nat.reduceLeDiff, Int.reduceToNat, Int.reduceLT, Int.reduceLE, Int.reduceEq, Int.reduceNeg, Int.reduceAdd, Int.reduceSub, Int.reduceMul]⟩
  · rintro d q h' hd hrb hq hqi rfl
    have hqb : ∀ L : Heap, (h ++ L)[q.b]? = some (.box [endD (E q.k q.s) q.e, kidD ns q.k (q.s ++ [false]), kidD ns q.k (q.s ++ [true])]) := fun L => (Ext.app (Ext.refl h) L).get (t.nd q hq)
    have hEn : E (rootN v) (pathA a d) = E q.k q.s := by rw [hqi.1, hqi.2]
    have hel := hEl q.k q.s
    have hsl : ∀ L : Heap, lenD (h ++ L) (endD (E q.k q.s) q.e) = some (E q.k q.s).length := fun L => (SlOf.low (end_sl t hq) L).lend
    have hso : (endD (E q.k q.s) q.e).sortOf = 2 := (end_sl t hq).sort
    have hen := t.en q hq
    refine YC.goes (T := Tm) (ps := [13]) cu cv (by simp (disch := first | omega | (simp only [List.length_append, List.length_cons, List.length_nil]; omega)) only [go_sem, ↓reduceIte, reduceCtorEq, Nat.reduceAdd, Nat.reduceSub, Nat.reducePow, Nat.reduceMul, Nat.reduceEqDiff, Nat.reduceLT, Nat.reduceLeDiff, Int.reduceToNat, Int.reduceLT, Int.reduceLE, Int.reduceEq, Int.reduceNeg, Int.reduceAdd, Int.reduceSub, Int.reduceMul]) rfl rfl rfl ?_
    subst hT
    by_cases h0 : E q.k q.s = []
    · have hlb : longB E v a (d + 1) = longB E v a d := by
        show (match E (rootN v) (pathA a d) with | [] => longB E v a d | x :: _ => (x : Int)) = _
        rw [hEn, h0]
      have hl0 : ¬ (((E q.k q.s).length : Nat) : Int) > 0 := by rw [h0]; simp
      have hl0' : ¬ (0 : Int) < (((E q.k q.s).length : Nat) : Int) := hl0
      simp (disch := first | omega | (simp only [List.length_append, List.length_cons, List.length_nil]; omega)) only [setps, List.zip_cons_cons, List.zip_nil_right, List.foldl_cons, List.foldl_nil, hqb, hsl, hso, hl0', po_rN, go_sem, ↓reduceIte, reduceCtorEq, Nat.reduceAdd, Nat.reduceSub, Nat.reducePow, Nat.reduceMul, Nat.reduceEqDiff, Nat.reduceLT, Nat.reduceLeDiff, Int.reduceToNat, Int.reduceLT, Int.reduceLE, Int.reduceEq, Int.reduceNeg, Int.reduceAdd, Int.reduceSub, Int.reduceMul]
      rw [hlb]
      exact Drops.of _ [] (List.append_nil _).symm (UOk.refl _ _) rfl
    · have hed : endD (E q.k q.s) q.e = .own q.e (E q.k q.s).length := by unfold endD; rw [if_neg h0]
      have hen1 : ∀ L : Heap, (h ++ L)[q.e]? = some (.grow 1 (i64s (E q.k q.s)) (E q.k q.s).length) := fun L => (Ext.app (Ext.refl h) L).get (hen h0)
      rw [hed] at hqb hsl hso
      have hlb : longB E v a (d + 1) = (((E q.k q.s).head h0 : Nat) : Int) := by
        show (match E (rootN v) (pathA a d) with | [] => longB E v a d | x :: _ => (x : Int)) = _
        rw [hEn]
        generalize E q.k q.s = l at *
        cases l with
        | nil => exact absurd rfl h0
        | cons x l => rfl
      have hx0 : (i64s (E q.k q.s))[0]? = some (.int .i64 (longB E v a (d + 1))) := by
        rw [hlb]
        generalize E q.k q.s = l at *
        cases l with
        | nil => exact absurd rfl h0
        | cons x l => rfl
      have hl0 : (0 : Int) < (((E q.k q.s).length : Nat) : Int) := by
        have := List.length_pos_iff.2 h0; omega
      have hl1 := List.length_pos_iff.2 h0
      simp (disch := first | omega | (simp only [List.length_append, List.length_cons, List.length_nil]; omega)) only [setps, List.zip_cons_cons, List.zip_nil_right, List.foldl_cons, List.foldl_nil, hqb, hsl, hso, hl0, hl1, hen1, hx0, splice0, po_rN, go_sem, ↓reduceIte, reduceCtorEq, Nat.reduceAdd, Nat.reduceSub, Nat.reducePow, Nat.reduceMul, Nat.reduceEqDiff, Nat.reduceLT, Nat.reduceLeDiff, Int.reduceToNat, Int.reduceLT, Int.reduceLE, Int.reduceEq, Int.reduceNeg, Int.reduceAdd, Int.reduceSub, Int.reduceMul]
      exact Drops.of _ [] (List.append_nil _).symm (UOk.append (UOk.refl _ _) ⟨.inl (bkeep.refl _), .inr (by simp [underB, underL, underD]), .inl (bkeep.refl _), .inl (bkeep.refl _), .inl (bkeep.refl _), .inl (bkeep.refl _), trivial⟩) rfl
  · rintro d h' ⟨n, rfl, hw⟩
    refine ⟨.ready, none, by simp (disch := first | omega | (simp only [List.length_append, List.length_cons, List.length_nil]; omega)) only [go_sem, ↓reduceIte, reduceCtorEq, Nat.reduceAdd, Nat.reduceSub, Nat.reducePow, Nat.reduceMul, Nat.reduceEqDiff, Nat.reduceLT, Nat.reduceLeDiff, Int.reduceToNat, Int.reduceLT, Int.reduceLE, Int.reduceEq, Int.reduceNeg, Int.reduceAdd, Int.reduceSub, Int.reduceMul], by simp, ?_⟩
    subst hT
    simp (disch := first | omega | (simp only [List.length_append, List.length_cons, List.length_nil]; omega)) only [go_sem, ↓reduceIte, reduceCtorEq, Nat.reduceAdd, Nat.reduceSub, Nat.reducePow, Nat.reduceMul, Nat.reduceEqDiff, Nat.reduceLT, Nat.reduceLeDiff, Int.reduceToNat, Int.reduceLT, Int.reduceLE, Int.reduceEq, Int.reduceNeg, Int.reduceAdd, Int.reduceSub, Int.reduceMul]
    exact FinOk.drop (.inl rfl) (by simp [underL, underD]) ⟨n, hw, rfl, rfl⟩
end Go.Proofs

/-
  Own work. Plain laws: what the way finds is what the document finds.
-/
namespace Go.Proofs
open Go Go.Ytecmopdncgekhaa
set_option linter.unusedVariables false
set_option linter.unusedSimpArgs false
set_option maxRecDepth 10000

theorem path_eq (a b : List UInt8) (n : Nat) : pathA a n = pathA b n ↔ ∀ i < n, abit a i = abit b i := by
  unfold pathA
  rw [List.map_inj_left]
  exact ⟨fun h i hi => h i (List.mem_range.2 hi), fun h i hi => h i (List.mem_range.1 hi)⟩
theorem front_path (a b : List UInt8) {n : Nat} (hn : n ≤ 128) : frontTo a n = frontTo b n ↔ pathA a n = pathA b n := by
  rw [path_eq, frontTo_eq hn (frontTo_length b n)]
  constructor
  · rintro ⟨h, _⟩ i hi
    rw [h i hi, frontTo_bit b n hn]; simp [hi]
  · intro h
    refine ⟨fun i hi => ?_, fun i h1 h2 => ?_⟩
    · rw [frontTo_bit b n hn, h i hi]; simp [hi]
    · rw [frontTo_bit b n hn]; simp; omega
theorem path_front (a : List UInt8) {n m : Nat} (hn : n ≤ 128) (hm : m ≤ n) : pathA (frontTo a n) m = pathA a m := by
  rw [path_eq]
  intro i hi
  rw [frontTo_bit a n hn]
  simp; omega
theorem chk_good {p : Pf} (h : p.chk = 0) : rootB p.v = true ∧ 0 ≤ p.n ∧ p.n.toNat ≤ 128 ∧ frontTo p.a p.n.toNat = p.a := by
  have hn := chk_n h
  unfold Pf.chk checkF at h
  split at h
  · rename_i h2; exact absurd h h2
  · rename_i h2
    refine ⟨?_, hn.1, by omega, ?_⟩
    · simp only [rootB, decide_eq_true_eq]
      unfold fitsF mostF at h2
      by_cases h4 : p.v = 4
      · exact .inl h4
      · by_cases h6 : p.v = 6
        · exact .inr h6
        · rw [if_neg h4, if_neg h6] at h2; simp at h2
    · by_cases hf : frontTo p.a p.n.toNat = p.a
      · exact hf
      · rw [if_neg hf] at h; cases h
theorem root_inj {v w : Int} (h1 : rootB v = true) (h2 : rootB w = true) (h : rootN v = rootN w) : v = w := by
  simp only [rootB, decide_eq_true_eq] at h1 h2
  unfold rootN at h
  rcases h1 with rfl | rfl <;> rcases h2 with rfl | rfl <;> first | rfl | (simp at h)
theorem has_iff {p : Pf} (h : p.chk = 0) (v : Int) (a : List UInt8) : hasF p.v p.a p.n v a = true ↔ v = p.v ∧ pathA p.a p.n.toNat = pathA a p.n.toNat := by
  obtain ⟨h1, h2, h3, h4⟩ := chk_good h
  unfold hasF
  have : checkF p.v p.a p.n = 0 := h
  rw [this]
  simp only [decide_true, Bool.true_and, Bool.and_eq_true, decide_eq_true_eq]
  have e : frontTo a p.n.toNat = p.a ↔ pathA p.a p.n.toNat = pathA a p.n.toNat := by
    rw [← front_path p.a a h3]
    constructor
    · intro e; rw [e, h4]
    · intro e; rw [← e, h4]
  rw [e]
theorem mem_EAt {l : List Pf} {k r j : Nat} {s : List Bool} : j ∈ EAt l k r s ↔ j < k ∧ rootN (pfAt l j).v = r ∧ pathA (pfAt l j).a (pfAt l j).n.toNat = s := by
  simp [EAt, List.mem_filter, List.mem_range]
theorem mem_visit {l : List Pf} {k j d : Nat} {v : Int} {a : List UInt8} : j ∈ visit (EAt l k) v a d ↔ j < k ∧ rootN (pfAt l j).v = rootN v ∧ (pfAt l j).n.toNat < d ∧ pathA (pfAt l j).a (pfAt l j).n.toNat = pathA a (pfAt l j).n.toNat := by
  unfold visit
  simp only [List.mem_flatMap, List.mem_range, mem_EAt]
  constructor
  · rintro ⟨m, h1, h2, h3, h4⟩
    have : (pfAt l j).n.toNat = m := by
      have := congrArg List.length h4
      rwa [pathA_len, pathA_len] at this
    subst this
    exact ⟨h2, h3, h1, h4⟩
  · rintro ⟨h1, h2, h3, h4⟩
    exact ⟨_, h3, h1, h2, h4⟩
theorem found_mem {l : List Pf} {ns : List Nd} {v : Int} {a : List UInt8} {d : Nat} (hg : ∀ i < l.length, (pfAt l i).chk = 0) (Y : NodesAt l l.length ns) (hw : WayEnd ns v a d) (j : Nat) :
    j ∈ visit (EAt l l.length) v a d ↔ j < l.length ∧ hasAt l v a j = true := by
  rw [mem_visit]
  constructor
  · rintro ⟨h1, h2, h3, h4⟩
    obtain ⟨g1, g2, g3, g4⟩ := chk_good (hg j h1)
    refine ⟨h1, ?_⟩
    unfold hasAt
    rw [has_iff (hg j h1)]
    have hb : rootB v = true := by
      rcases hw with ⟨_, rfl⟩ | ⟨h, _⟩
      · omega
      · exact h
    exact ⟨(root_inj g1 hb h2).symm, h4⟩
  · rintro ⟨h1, h2⟩
    obtain ⟨g1, g2, g3, g4⟩ := chk_good (hg j h1)
    unfold hasAt at h2
    rw [has_iff (hg j h1)] at h2
    obtain ⟨rfl, h3⟩ := h2
    refine ⟨h1, rfl, ?_, h3⟩
    rcases hw with ⟨h, _⟩ | ⟨_, rfl | ⟨hd, hno⟩⟩
    · rw [g1] at h; cases h
    · omega
    · rcases Nat.lt_or_ge (pfAt l j).n.toNat d with hlt | hge
      · exact hlt
      · exfalso
        have hp : pathA (pfAt l j).a d = pathA a d := by
          rw [path_eq] at h3 ⊢
          intro i hi
          exact h3 i (by omega)
        obtain ⟨q, hq, hi⟩ := (Y (rootN (pfAt l j).v) (pathA a d)).2 ⟨j, h1, rfl, d, hge, hp.symm⟩
        exact hno q hq hi
theorem find_eq {l : List Pf} {ns : List Nd} {v : Int} {a : List UInt8} {d : Nat} (hg : ∀ i < l.length, (pfAt l i).chk = 0) (Y : NodesAt l l.length ns) (hw : WayEnd ns v a d) :
    putL ((l.length + 63) / 64) (visit (EAt l l.length) v a d) = find19 l v a := by
  refine row_ext (by rw [find19, putL_length, putL_length]) (putL_words _ _) (putL_words _ _) fun j hj => ?_
  have b1 : ∀ k ∈ visit (EAt l l.length) v a d, k < 64 * (List.replicate ((l.length + 63) / 64) 0).length := fun k hk => by
    have := ((found_mem hg Y hw k).1 hk).1
    rw [List.length_replicate]; omega
  have b2 : ∀ k ∈ idxB (hasAt l v a) l.length, k < 64 * (List.replicate ((l.length + 63) / 64) 0).length := fun k hk => by
    have := (idxB_mem.1 hk).1
    rw [List.length_replicate]; omega
  rw [find19, putL, putL, putF_has j _ _ b1, putF_has j _ _ b2]
  congr 1
  rw [decide_eq_decide, found_mem hg Y hw, idxB_mem]

/-! ### The longest -/
/-- The best of some. -/
def BestOf (l : List Pf) (P : Nat → Prop) (x : Int) : Prop :=
  (x = -1 ∧ ∀ i, ¬ P i) ∨ ∃ b : Nat, x = (b : Int) ∧ P b ∧ ∀ i, P i → (pfAt l i).n < (pfAt l b).n ∨ ((pfAt l i).n = (pfAt l b).n ∧ b ≤ i)
theorem BestOf.uniq {l : List Pf} {P Q : Nat → Prop} {x y : Int} (h : ∀ i, P i ↔ Q i) (h1 : BestOf l P x) (h2 : BestOf l Q y) : x = y := by
  rcases h1 with ⟨rfl, h1⟩ | ⟨b, rfl, hb, h1⟩ <;> rcases h2 with ⟨rfl, h2⟩ | ⟨c, rfl, hc, h2⟩
  · rfl
  · exact absurd ((h c).2 hc) (h1 c)
  · exact absurd ((h b).1 hb) (h2 b)
  · have p1 := h1 c ((h c).2 hc)
    have p2 := h2 b ((h b).1 hb)
    have : b = c := by omega
    rw [this]
theorem best19_best (l : List Pf) (v : Int) (a : List UInt8) : ∀ k, BestOf l (fun i => i < k ∧ hasAt l v a i = true) (best19 l v a k)
  | 0 => .inl ⟨rfl, fun i h => absurd h.1 (by omega)⟩
  | k + 1 => by
    have ih := best19_best l v a k
    rw [best19]
    by_cases hh : hasAt l v a k = true
    · rcases ih with ⟨e, hno⟩ | ⟨b, e, hb, hbest⟩
      · rw [if_pos ⟨hh, .inl (by omega)⟩]
        refine .inr ⟨k, rfl, ⟨by omega, hh⟩, fun i hi => ?_⟩
        by_cases hik : i = k
        · subst hik; exact .inr ⟨rfl, Nat.le_refl _⟩
        · exact absurd ⟨by omega, hi.2⟩ (hno i)
      · rw [e]
        by_cases hlt : (pfAt l b).n < (pfAt l k).n
        · rw [if_pos ⟨hh, .inr (by simpa using hlt)⟩]
          refine .inr ⟨k, rfl, ⟨by omega, hh⟩, fun i hi => ?_⟩
          by_cases hik : i = k
          · subst hik; exact .inr ⟨rfl, Nat.le_refl _⟩
          · have := hbest i ⟨by omega, hi.2⟩
            exact .inl (by omega)
        · rw [if_neg (by simp only [Int.toNat_natCast]; omega)]
          refine .inr ⟨b, rfl, ⟨by omega, hb.2⟩, fun i hi => ?_⟩
          by_cases hik : i = k
          · subst hik
            have := hb.1
            by_cases he : (pfAt l i).n = (pfAt l b).n
            · exact .inr ⟨he, by omega⟩
            · exact .inl (by omega)
          · exact hbest i ⟨by omega, hi.2⟩
    · rw [if_neg (fun h => hh h.1)]
      rcases ih with ⟨e, hno⟩ | ⟨b, e, hb, hbest⟩
      · refine .inl ⟨e, fun i hi => ?_⟩
        by_cases hik : i = k
        · subst hik; exact hh hi.2
        · exact hno i ⟨by omega, hi.2⟩
      · refine .inr ⟨b, e, ⟨by omega, hb.2⟩, fun i hi => ?_⟩
        by_cases hik : i = k
        · subst hik; exact absurd hi.2 hh
        · exact hbest i ⟨by omega, hi.2⟩
theorem head_least {p : Nat → Bool} {k x : Nat} {t : List Nat} (h : (List.range k).filter p = x :: t) : ∀ y ∈ (List.range k).filter p, x ≤ y := by
  have hs : ((List.range k).filter p).Pairwise (· < ·) := List.pairwise_lt_range.filter _
  rw [h] at hs ⊢
  rw [List.pairwise_cons] at hs
  intro y hy
  rcases List.mem_cons.1 hy with rfl | hy
  · exact Nat.le_refl _
  · exact Nat.le_of_lt (hs.1 y hy)
theorem longB_best {l : List Pf} (hg : ∀ i < l.length, (pfAt l i).chk = 0) (v : Int) (a : List UInt8) : ∀ d, BestOf l (fun i => i ∈ visit (EAt l l.length) v a d) (longB (EAt l l.length) v a d)
  | 0 => .inl ⟨rfl, by simp [visit]⟩
  | d + 1 => by
    have ih := longB_best hg v a d
    have hn : ∀ i, i ∈ visit (EAt l l.length) v a d → (pfAt l i).n < d := fun i hi => by
      have := mem_visit.1 hi
      have := (chk_good (hg i this.1)).2.1
      omega
    have hm : ∀ i, i ∈ EAt l l.length (rootN v) (pathA a d) → (pfAt l i).n = d := fun i hi => by
      have := mem_EAt.1 hi
      have h3 := congrArg List.length this.2.2
      rw [pathA_len, pathA_len] at h3
      have := (chk_good (hg i this.1)).2.1
      omega
    have hv : ∀ i, i ∈ visit (EAt l l.length) v a (d + 1) ↔ i ∈ visit (EAt l l.length) v a d ∨ i ∈ EAt l l.length (rootN v) (pathA a d) := fun i => by
      rw [visit_succ, List.mem_append]
    show BestOf l _ (match EAt l l.length (rootN v) (pathA a d) with | [] => longB (EAt l l.length) v a d | x :: _ => (x : Int))
    cases e : EAt l l.length (rootN v) (pathA a d) with
    | nil =>
      rw [e] at hv
      simp only [List.not_mem_nil, or_false] at hv
      simp only
      rcases ih with ⟨h1, h2⟩ | ⟨b, h1, h2, h3⟩
      · exact .inl ⟨h1, fun i hi => h2 i ((hv i).1 hi)⟩
      · exact .inr ⟨b, h1, (hv b).2 h2, fun i hi => h3 i ((hv i).1 hi)⟩
    | cons x t =>
      simp only
      have hx : x ∈ EAt l l.length (rootN v) (pathA a d) := by rw [e]; simp
      refine .inr ⟨x, rfl, (hv x).2 (.inr hx), fun i hi => ?_⟩
      rcases (hv i).1 hi with hi | hi
      · exact .inl (by rw [hm x hx]; exact hn i hi)
      · refine .inr ⟨by rw [hm x hx, hm i hi], ?_⟩
        exact head_least (p := fun i => decide (rootN (pfAt l i).v = rootN v ∧ pathA (pfAt l i).a (pfAt l i).n.toNat = pathA a d)) (k := l.length) e i hi
theorem longest_eq {l : List Pf} {ns : List Nd} {v : Int} {a : List UInt8} {d : Nat} (hg : ∀ i < l.length, (pfAt l i).chk = 0) (Y : NodesAt l l.length ns) (hw : WayEnd ns v a d) :
    longB (EAt l l.length) v a d = best19 l v a l.length :=
  (longB_best hg v a d).uniq (found_mem hg Y hw) (best19_best l v a l.length)
end Go.Proofs

/-
  Own work. Plain law: as many nodes as the document's fronts.
-/
namespace Go.Proofs
open Go Go.Ytecmopdncgekhaa
set_option linter.unusedVariables false
set_option linter.unusedSimpArgs false
set_option maxRecDepth 10000

deriving instance DecidableEq for Pf
def seenStep (seen : List Pf) (p : Pf) : List Pf := if p ∈ seen then seen else seen ++ [p]
def frontP (p : Pf) (n : Nat) : Pf := ⟨p.v, frontTo p.a n, (n : Int)⟩
/-- The first m fronts of a prefix. -/
def fronts (p : Pf) (m : Nat) : List Pf := (List.range m).map (frontP p)
theorem fronts_succ (p : Pf) (m : Nat) : fronts p (m + 1) = fronts p m ++ [frontP p m] := by
  unfold fronts; rw [List.range_succ, List.map_append]; rfl
def frontsTo (l : List Pf) (k : Nat) : List Pf := (List.range k).flatMap fun i => fronts (pfAt l i) ((pfAt l i).n.toNat + 1)
theorem frontsTo_succ (l : List Pf) (k : Nat) : frontsTo l (k + 1) = frontsTo l k ++ fronts (pfAt l k) ((pfAt l k).n.toNat + 1) := by
  unfold frontsTo; rw [List.range_succ, List.flatMap_append]; simp
def seenL (x : List Pf) : List Pf := x.foldl seenStep []
theorem seenL_snoc (x : List Pf) (p : Pf) : seenL (x ++ [p]) = seenStep (seenL x) p := by simp [seenL]
/-- The document's fronts, each once. -/
def nodes19 (l : List Pf) : List Pf := seenL (frontsTo l l.length)
theorem seenF_mem : ∀ (x s : List Pf) (p : Pf), p ∈ x.foldl seenStep s ↔ p ∈ s ∨ p ∈ x
  | [], s, p => by simp
  | q :: x, s, p => by
    rw [List.foldl_cons, seenF_mem x, List.mem_cons]
    unfold seenStep
    split
    · rename_i h
      constructor
      · rintro (h1 | h1)
        · exact .inl h1
        · exact .inr (.inr h1)
      · rintro (h1 | rfl | h1)
        · exact .inl h1
        · exact .inl h
        · exact .inr h1
    · rw [List.mem_append, List.mem_singleton, or_assoc]
theorem seenF_nodup : ∀ (x s : List Pf), s.Nodup → (x.foldl seenStep s).Nodup
  | [], s, h => h
  | q :: x, s, h => by
    rw [List.foldl_cons]
    refine seenF_nodup x _ ?_
    unfold seenStep
    split
    · exact h
    · rename_i hq
      rw [List.nodup_append]
      refine ⟨h, by simp, fun a ha b hb => ?_⟩
      simp only [List.mem_singleton] at hb
      subst hb
      rintro rfl
      exact hq ha
theorem seenF_le : ∀ (x s : List Pf), (x.foldl seenStep s).length ≤ s.length + x.length
  | [], s => by simp
  | q :: x, s => by
    rw [List.foldl_cons]
    have := seenF_le x (seenStep s q)
    have h2 : (seenStep s q).length ≤ s.length + 1 := by unfold seenStep; split <;> simp
    rw [List.length_cons]; omega
theorem mem_frontsTo {l : List Pf} {k : Nat} {p : Pf} : p ∈ frontsTo l k ↔ ∃ i < k, ∃ d ≤ (pfAt l i).n.toNat, p = frontP (pfAt l i) d := by
  unfold frontsTo fronts
  simp only [List.mem_flatMap, List.mem_range, List.mem_map]
  constructor
  · rintro ⟨i, h1, d, h2, rfl⟩
    exact ⟨i, h1, d, by omega, rfl⟩
  · rintro ⟨i, h1, d, h2, rfl⟩
    exact ⟨i, h1, d, by omega, rfl⟩
theorem nodes_eq {l : List Pf} {ns : List Nd} (hg : ∀ i < l.length, (pfAt l i).chk = 0) (Y : NodesAt l l.length ns) (hnd : ns.Nodup) (hk : ∀ r ∈ ns, ∀ r' ∈ ns, r.k = r'.k → r.s = r'.s → r = r') :
    ns.length = (nodes19 l).length := by
  let f : Pf → Nat × List Bool := fun p => (rootN p.v, pathA p.a p.n.toNat)
  let g : Nd → Nat × List Bool := fun r => (r.k, r.s)
  have hmem : ∀ p, p ∈ nodes19 l ↔ ∃ i < l.length, ∃ d ≤ (pfAt l i).n.toNat, p = frontP (pfAt l i) d := fun p => by
    unfold nodes19 seenL
    rw [seenF_mem, mem_frontsTo]; simp
  have hf : ∀ i < l.length, ∀ d ≤ (pfAt l i).n.toNat, f (frontP (pfAt l i) d) = (rootN (pfAt l i).v, pathA (pfAt l i).a d) := fun i hi d hd => by
    have := (chk_good (hg i hi)).2.2.1
    show (rootN (pfAt l i).v, pathA (frontTo (pfAt l i).a d) ((d : Int)).toNat) = _
    rw [Int.toNat_natCast, path_front _ (by omega) (Nat.le_refl d)]
  have n1 : (ns.map g).Nodup := by
    refine List.Pairwise.map _ (fun a b hab => ?_) (List.Pairwise.and_mem.1 hnd)
    obtain ⟨ha, hb, hne⟩ := hab
    intro h
    exact hne (hk a ha b hb (congrArg Prod.fst h) (congrArg Prod.snd h))
  have n2 : ((nodes19 l).map f).Nodup := by
    refine List.Pairwise.map _ (fun a b hab => ?_) (List.Pairwise.and_mem.1 (seenF_nodup (frontsTo l l.length) [] (by simp)))
    obtain ⟨ha, hb, hne⟩ := hab
    intro h
    apply hne
    obtain ⟨i, hi, d, hd, rfl⟩ := (hmem a).1 ha
    obtain ⟨j, hj, e, he, rfl⟩ := (hmem b).1 hb
    rw [hf i hi d hd, hf j hj e he] at h
    have h1 := root_inj (chk_good (hg i hi)).1 (chk_good (hg j hj)).1 (congrArg Prod.fst h)
    have h2 := congrArg Prod.snd h
    have h3 := congrArg List.length h2
    simp only [pathA_len] at h3
    subst h3
    have := (chk_good (hg i hi)).2.2.1
    unfold frontP
    rw [h1, (front_path _ _ (by omega)).2 h2]
  have hp : List.Perm (ns.map g) ((nodes19 l).map f) := by
    rw [List.perm_ext_iff_of_nodup n1 n2]
    intro x
    rw [List.mem_map, List.mem_map]
    have y := Y x.1 x.2
    constructor
    · rintro ⟨r, hr, rfl⟩
      obtain ⟨i, hi, h1, d, hd, h2⟩ := y.1 ⟨r, hr, rfl, rfl⟩
      exact ⟨_, (hmem _).2 ⟨i, hi, d, hd, rfl⟩, by rw [hf i hi d hd]; exact Prod.ext h1.symm h2.symm⟩
    · rintro ⟨p, hp, rfl⟩
      obtain ⟨i, hi, d, hd, rfl⟩ := (hmem p).1 hp
      rw [hf i hi d hd] at y ⊢
      obtain ⟨r, hr, hi'⟩ := y.2 ⟨i, hi, rfl, d, hd, rfl⟩
      exact ⟨r, hr, Prod.ext hi'.1 hi'.2⟩
  have := hp.length_eq
  simpa using this
end Go.Proofs

/-
  Own work. The walk of the document's Nodes.
-/
namespace Go.Proofs
open Go Go.Ytecmopdncgekhaa
set_option linter.unusedVariables false
set_option linter.unusedSimpArgs false
set_option maxRecDepth 10000

/-! ### weighbridge/weighbridgeref19.Nodes, params 1 -/
def c16r0 : List AStm := [.op (some 2) none (.mv (.c (.int .i64 0)))]
def c16r1 : List AStm := [.op (some 3) none (.mv (.c .nils))]
def c16r2 : List AStm := [.op (some 4) none (.mv (.c (.int .i64 0)))]
def c16r3 : List AStm := [.op (some 10) none (.mv (.t 4)),
    .op (some 11) none (.mv (.t 0)),
    .op (some 12) none (.len false (.t 11)),
    .op (some 13) none (.bin .lss (.t 10) (.t 12))]
def c16r4 : List AStm := [.op (some 5) none (.mv (.c (.int .i64 0)))]
def c16r5 : List AStm := [.op (some 16) none (.mv (.t 5)),
    .op (some 17) none (.mv (.t 0)),
    .op (some 18) none (.mv (.t 4)),
    .op (some 19) none (.ixs 18 (.t 17) (.t 18)),
    .op (some 20) none (.faddr 17 (.t 19)),
    .op (some 21) none (.load none (.t 20)),
    .op (some 22) none (.bin .leq (.t 16) (.t 21))]
def c16r6 : List AStm := [.op (some 26) none (.mv (.t 0)),
    .op (some 27) none (.mv (.t 4)),
    .op (some 28) none (.ixs 18 (.t 26) (.t 27)),
    .op (some 29) none (.faddr 0 (.t 28)),
    .op (some 30) none (.load none (.t 29)),
    .op (some 31) none (.mv (.t 0)),
    .op (some 32) none (.mv (.t 4)),
    .op (some 33) none (.ixs 18 (.t 31) (.t 32)),
    .op (some 34) none (.faddr 1 (.t 33)),
    .op (some 35) none (.load (some 16) (.t 34)),
    .op (some 36) none (.mv (.t 5)),
    .callL (some 37) none (.c (.fn (.func 28) [] [])) [(.t 30), (.t 35), (.t 36)],
    .op (some 25) none (.mv (.t 37)),
    .op (some 38) none (.ext (.t 25) 0),
    .op (some 39) none (.ext (.t 25) 1),
    .op (some 6) none (.alloc [(.int .i64 0), (.int .u8 0), (.int .u8 0), (.int .u8 0), (.int .u8 0), (.int .u8 0), (.int .u8 0), (.int .u8 0), (.int .u8 0), (.int .u8 0), (.int .u8 0), (.int .u8 0), (.int .u8 0), (.int .u8 0), (.int .u8 0), (.int .u8 0), (.int .u8 0), (.int .i64 0)]),
    .op none none (.store 18 (.t 6) (.t 38)),
    .op (some 7) none (.mv (.t 39))]
def c16r7 : List AStm := []
def c16r8 : List AStm := [.op (some 8) none (.mv (.c (.bool true)))]
def c16r9 : List AStm := [.op (some 9) none (.mv (.c (.int .i64 0)))]
def c16r10 : List AStm := [.op (some 40) none (.mv (.t 9)),
    .op (some 41) none (.mv (.t 3)),
    .op (some 42) none (.len false (.t 41)),
    .op (some 43) none (.bin .lss (.t 40) (.t 42)),
    .op (some 44) none (.mv (.t 43)),
    .op (some 45) (some (44, true)) (.mv (.t 8)),
    .op (some 46) none (.pick (.t 44) (.t 45) (.c (.bool false)))]
def c16r11 : List AStm := [.op (some 49) none (.mv (.t 3)),
    .op (some 50) none (.mv (.t 9)),
    .op (some 51) none (.ixs 18 (.t 49) (.t 50)),
    .op (some 52) none (.load (some 18) (.t 51)),
    .op (some 53) none (.load (some 18) (.t 6)),
    .op (some 54) none (.eqa true (List.replicate 18 .ki) (.t 52) (.t 53)),
    .op (some 8) none (.mv (.t 54))]
def c16r12 : List AStm := []
def c16r13 : List AStm := [.op (some 47) none (.mv (.t 9)),
    .op (some 48) none (.bin .add (.t 47) (.c (.int .i64 1))),
    .op (some 9) none (.mv (.t 48))]
def c16l14 : AC := .seq (.seq (.reg c16r10) (.cond (.t 46) (.skip) (.exit 4))) (.seq (.block 5 (.dreg c16r11 c16r12)) (.reg c16r13))
def c16r15 : List AStm := [.op (some 55) none (.mv (.t 8))]
def c16r16 : List AStm := [.op (some 56) none (.mv (.t 3)),
    .op (some 57) none (.load (some 18) (.t 6)),
    .op (some 58) none (.bslice 18 [(.int .i64 0), (.int .u8 0), (.int .u8 0), (.int .u8 0), (.int .u8 0), (.int .u8 0), (.int .u8 0), (.int .u8 0), (.int .u8 0), (.int .u8 0), (.int .u8 0), (.int .u8 0), (.int .u8 0), (.int .u8 0), (.int .u8 0), (.int .u8 0), (.int .u8 0), (.int .i64 0)] 1 [(0, 18, (.t 57))]),
    .op (some 59) none (.append false 18 32 (.t 56) (.t 58)),
    .op (some 3) none (.mv (.t 59))]
def c16r17 : List AStm := [.op (some 23) none (.mv (.t 5)),
    .op (some 24) none (.bin .add (.t 23) (.c (.int .i64 1))),
    .op (some 5) none (.mv (.t 24))]
def c16l18 : AC := .seq (.seq (.reg c16r5) (.cond (.t 22) (.skip) (.exit 2))) (.seq (.block 3 (.seq (.dreg c16r6 c16r7) (.seq (.reg c16r8) (.seq (.seq (.reg c16r9) (.block 4 (.loop c16l14))) (.seq (.reg c16r15) (.cond (.t 55) (.reg c16r16) (.skip))))))) (.reg c16r17))
def c16r19 : List AStm := [.op (some 14) none (.mv (.t 4)),
    .op (some 15) none (.bin .add (.t 14) (.c (.int .i64 1))),
    .op (some 4) none (.mv (.t 15))]
def c16l20 : AC := .seq (.seq (.reg c16r3) (.cond (.t 13) (.skip) (.exit 0))) (.seq (.block 1 (.seq (.reg c16r4) (.block 2 (.loop c16l18)))) (.reg c16r19))
def c16r21 : List AStm := [.op (some 60) none (.mv (.t 3)),
    .op (some 61) none (.len false (.t 60)),
    .op (some 2) none (.mv (.t 61))]
def c16 : CF := ⟨.seq (.reg c16r0) (.seq (.reg c16r1) (.seq (.seq (.reg c16r2) (.block 0 (.loop c16l20))) (.seq (.reg c16r21) (.ret)))), [.tmp 2], 62⟩
theorem cf16 : cfun Try.prog 16 = some c16 := by kernel_rfl



theorem eqC_bytes {ks : List SK} {xs ys : List D} : ∀ {n : Nat} {l r : List UInt8}, l.length = n → r.length = n → eqCells (List.replicate n .ki ++ ks) (ofBytes l ++ xs) (ofBytes r ++ ys) = (eqCells ks xs ys).map fun c => decide (l = r) && c
  | 0, [], [], _, _ => by simp [ofBytes]
  | n + 1, a :: l, b :: r, h1, h2 => by
    have ih := eqC_bytes (ks := ks) (xs := xs) (ys := ys) (n := n) (l := l) (r := r) (by simpa using h1) (by simpa using h2)
    simp only [ofBytes] at ih
    simp only [List.replicate_succ, ofBytes, List.map_cons, List.cons_append, eqCells, ek_i, Option.bind_some, ih]
    cases eqCells ks xs ys with
    | none => rfl
    | some c =>
      simp only [Option.map_some]
      congr 1
      by_cases e : a = b
      · subst e; simp
      · have : ¬ (a.toNat : Int) = b.toNat := by
          intro h; apply e; apply UInt8.toNat_inj.1; omega
        simp [e, this]
theorem eq_pf {p q : Pf} (hp : p.a.length = 16) (hq : q.a.length = 16) : eqCells (List.replicate 18 .ki) p.cells q.cells = some (decide (p = q)) := by
  have e : List.replicate 18 SK.ki = .ki :: (List.replicate 16 .ki ++ [.ki]) := rfl
  rw [e, Pf.cells, Pf.cells, eqCells, ek_i, Option.bind_some, eqC_bytes hp hq]
  simp only [eqCells, ek_i, Option.bind_some, Option.map_some]
  congr 1
  cases p; cases q
  simp only [Pf.mk.injEq]
  rw [Bool.eq_iff_iff]
  simp
/-- A slice of prefixes that grows. -/
def SeenAt (h Hp : Heap) (x : List Pf) (d : D) : Prop := (x = [] ∧ d = .nils) ∨ (x ≠ [] ∧ ∃ r, h.length ≤ r ∧ d = .own r x.length ∧ Hp[r]? = some (.grow 18 (pfs x) x.length))
theorem pfs_length : ∀ {x : List Pf}, Addrs x → (pfs x).length = x.length * 18
  | [], _ => rfl
  | p :: x, h => by
    have := pfs_length (x := x) fun q hq => h q (by simp [hq])
    rw [pfs, List.flatMap_cons, List.length_append, Pf.cells_length (h p (by simp)), List.length_cons]
    unfold pfs at this
    rw [this]; omega
theorem SeenAt.sl {h Hp : Heap} {x : List Pf} {d : D} (s : SeenAt h Hp x d) (ha : Addrs x) : SlOf Hp 18 d (pfs x) x.length := by
  rcases s with ⟨rfl, rfl⟩ | ⟨_, r, _, rfl, hb⟩
  · exact nils_of _ _
  · exact own_of hb (pfs_length ha)
theorem SeenAt.ext {h Hp H' : Heap} {x : List Pf} {d : D} (s : SeenAt h Hp x d) (e : Ext Hp H') : SeenAt h H' x d := by
  rcases s with s | ⟨h0, r, h1, h2, h3⟩
  · exact .inl s
  · exact .inr ⟨h0, r, h1, h2, e.get h3⟩
theorem pfs_snoc (x : List Pf) (p : Pf) : pfs (x ++ [p]) = pfs x ++ p.cells := by simp [pfs]
theorem SeenAt.app {h Hp : Heap} {x : List Pf} {d : D} (s : SeenAt h Hp x d) (p : Pf) (E : Ext h Hp) (hn : x.length ≤ 1000000) :
    ∃ H' d', appendD (Hp ++ [.grow 18 p.cells 1]) 18 32 d p.cells 1 = some (d', H') ∧ SeenAt h H' (x ++ [p]) d' ∧ Ext h H' := by
  have hl : h.length ≤ Hp.length := by obtain ⟨L, rfl⟩ := E; simp
  rcases s with ⟨rfl, rfl⟩ | ⟨h0, r, h1, rfl, hb⟩
  · refine ⟨Hp ++ [.grow 18 p.cells 1] ++ [.grow 18 p.cells 1], .own (Hp ++ [Blk.grow 18 p.cells 1]).length 1, by rw [ap_nils, if_neg (by omega), if_pos ⟨by omega, by omega⟩], .inr ⟨by simp, _, ?_, rfl, ?_⟩, (Ext.app E _).trans ⟨_, rfl⟩⟩
    · simp; omega
    · rw [List.getElem?_append_right (Nat.le_refl _), Nat.sub_self]; simp [pfs]
  · have hg : (Hp ++ [.grow 18 p.cells 1])[r]? = some (.grow 18 (pfs x) x.length) := (Ext.app (Ext.refl Hp) _).get hb
    have hrl := lt_of_get hb
    refine ⟨_, _, by rw [ap_own, hg]; show (if _ then _ else _) = _; rw [if_pos ⟨rfl, rfl, by omega, by omega⟩], .inr ⟨by simp, _, h1, by simp, ?_⟩, ?_⟩
    · rw [List.getElem?_set_self (by simp; omega), pfs_snoc]; simp
    · refine ext_keep (by simp; omega) fun i b hi => ?_
      have := lt_of_get hi
      rw [List.getElem?_set_ne (by omega)]
      exact (Ext.app E _).get hi
theorem Addrs.seen {x : List Pf} (h : Addrs x) : Addrs (seenL x) := fun p hp => by
  unfold seenL at hp
  rw [seenF_mem] at hp
  rcases hp with h' | h'
  · simp at h'
  · exact h p h'
theorem frontsTo_addrs (l : List Pf) (i : Nat) : Addrs (frontsTo l i) := fun p hp => by
  obtain ⟨_, _, d, _, rfl⟩ := mem_frontsTo.1 hp
  exact frontTo_length _ _
theorem fronts_addrs (p : Pf) (n : Nat) : Addrs (fronts p n) := fun q hq => by
  obtain ⟨d, _, rfl⟩ := List.mem_map.1 hq
  exact frontTo_length _ _
theorem Addrs.append {x y : List Pf} (h : Addrs x) (g : Addrs y) : Addrs (x ++ y) := fun p hp => by
  rcases List.mem_append.1 hp with hp | hp
  · exact h p hp
  · exact g p hp
theorem pfAt_mem {x : List Pf} {j : Nat} (h : j < x.length) : pfAt x j ∈ x := by
  unfold pfAt
  rw [List.getD_eq_getElem?_getD, List.getElem?_eq_getElem h]
  exact List.getElem_mem h
theorem mem_pfAt {x : List Pf} {q : Pf} (h : q ∈ x) : ∃ j < x.length, pfAt x j = q := by
  obtain ⟨j, hj, rfl⟩ := List.getElem_of_mem h
  exact ⟨j, hj, by unfold pfAt; rw [List.getD_eq_getElem?_getD, List.getElem?_eq_getElem hj]; rfl⟩
theorem frontsTo_le {l : List Pf} (hg : ∀ i < l.length, (pfAt l i).chk = 0) : ∀ k ≤ l.length, (frontsTo l k).length ≤ k * 129
  | 0, _ => by simp [frontsTo]
  | k + 1, hk => by
    have := frontsTo_le hg k (by omega)
    have h2 := (chk_good (hg k (by omega))).2.2.1
    rw [frontsTo_succ, List.length_append]
    have : (fronts (pfAt l k) ((pfAt l k).n.toNat + 1)).length = (pfAt l k).n.toNat + 1 := by simp [fronts]
    omega
theorem seenL_le (x : List Pf) : (seenL x).length ≤ x.length := by
  have := seenF_le x []
  simpa [seenL] using this
theorem cells_v {p : Pf} {cs : List D} (hc : cs.take 18 = p.cells) : cs[0]? = some (.int .i64 p.v) := by
  have h1 : cs[0]? = p.cells[0]? := by rw [← hc, List.getElem?_take, if_pos (by omega)]
  rw [h1]; rfl
theorem cells_a {p : Pf} (h : p.a.length = 16) {cs : List D} (hc : cs.take 18 = p.cells) : (cs.drop 1).take 16 = ofBytes p.a := by
  have h1 : (p.cells.drop 1).take 16 = ofBytes p.a := Pf.addr h
  rw [← h1, ← hc, List.drop_take, List.take_take]; rfl
theorem fits_le {v n : Int} {m : Nat} (h : fitsF v n = 0) (hm : (m : Int) ≤ n) : fitsF v (m : Int) = 0 := by
  unfold fitsF at h ⊢
  split at h
  · cases h
  · rename_i x hx
    split at h
    · cases h
    · rw [if_neg (by omega)]
theorem chk_fits {p : Pf} (h : p.chk = 0) : fitsF p.v p.n = 0 := by
  unfold Pf.chk checkF at h
  split at h
  · rename_i h2; exact absurd h h2
  · rename_i h2; simpa using h2

theorem nodes19_fc (h : Heap) (lD : D) (l : List Pf) (s : SlOf h 18 lD (pfs l) l.length) (ha : Addrs l) (hlen : l.length ≤ 256) (hg : ∀ i < l.length, (pfAt l i).chk = 0) :
    FC Try.prog 16 [lD] h fun d h' => d = .int .i64 ((nodes19 l).length : Int) ∧ h' = h := by
  refine FC.goes cf16 ?_; simp only [c16]; simp only [List.length_cons, List.length_nil, Nat.reduceAdd, Nat.reduceSub, List.replicate_succ, List.replicate_zero, List.cons_append, List.nil_append]
  simp (disch := first | omega | (simp only [List.length_append, List.length_cons, List.length_nil]; omega)) only [c16r0, c16r1, c16r2, c16r3, c16r4, c16r5, c16r6, c16r7, c16r8, c16r9, c16r10, c16r11, c16r12, c16r13, c16l14, c16r15, c16r16, c16r17, c16l18, c16r19, c16l20, c16r21, go_sem, ↓reduceIte, reduceCtorEq, Nat.reduceAdd, Nat.reduceSub, Nat.reducePow, Nat.reduceMul, Nat.reduceEqDiff, Nat.reduceLT, Nat.reduceLeDiff, Int.reduceToNat, Int.reduceLT, Int.reduceLE, Int.reduceEq, Int.reduceNeg, Int.reduceAdd, Int.reduceSub, Int.reduceMul]
  refine loop_to l.length (fun i st => ∃ (Hp : Heap) (d : D), Ext h Hp ∧ SeenAt h Hp (seenL (frontsTo l i)) d ∧ ∃ (j : Nat → D), st = ⟨(lD :: j 1 :: j 2 :: d :: .int .i64 (i : Int) :: j 5 :: j 6 :: j 7 :: j 8 :: j 9 :: j 10 :: j 11 :: j 12 :: j 13 :: j 14 :: j 15 :: j 16 :: j 17 :: j 18 :: j 19 :: j 20 :: j 21 :: j 22 :: j 23 :: j 24 :: j 25 :: j 26 :: j 27 :: j 28 :: j 29 :: j 30 :: j 31 :: j 32 :: j 33 :: j 34 :: j 35 :: j 36 :: j 37 :: j 38 :: j 39 :: j 40 :: j 41 :: j 42 :: j 43 :: j 44 :: j 45 :: j 46 :: j 47 :: j 48 :: j 49 :: j 50 :: j 51 :: j 52 :: j 53 :: j 54 :: j 55 :: j 56 :: j 57 :: j 58 :: j 59 :: j 60 :: j 61 :: []), Hp⟩) ⟨h, .nils, Ext.refl h, .inl ⟨rfl, rfl⟩, junk rfl⟩ ?_
  rintro i st hi ⟨Hp, d, E, se, j, rfl⟩
  have s1 := SlOf.ext s E
  by_cases hil : i < l.length
  · have hil' : (i : Int) < l.length := by omega
    have hgi := hg i hil
    obtain ⟨g1, g2, g3, g4⟩ := chk_good hgi
    have hfit := chk_fits hgi
    have hto := frontsTo_le hg i (by omega)
    simp (disch := first | omega | (simp only [List.length_append, List.length_cons, List.length_nil]; omega)) only [c16r0, c16r1, c16r2, c16r3, c16r4, c16r5, c16r6, c16r7, c16r8, c16r9, c16r10, c16r11, c16r12, c16r13, c16l14, c16r15, c16r16, c16r17, c16l18, c16r19, c16l20, c16r21, s1.lend, s1.sort, hil', go_sem, ↓reduceIte, reduceCtorEq, Nat.reduceAdd, Nat.reduceSub, Nat.reducePow, Nat.reduceMul, Nat.reduceEqDiff, Nat.reduceLT, Nat.reduceLeDiff, Int.reduceToNat, Int.reduceLT, Int.reduceLE, Int.reduceEq, Int.reduceNeg, Int.reduceAdd, Int.reduceSub, Int.reduceMul]
    refine loop_to ((pfAt l i).n.toNat + 1) (fun n st => ∃ (Hp : Heap) (d : D), Ext h Hp ∧ SeenAt h Hp (seenL (frontsTo l i ++ fronts (pfAt l i) n)) d ∧ ∃ (j : Nat → D), st = ⟨(lD :: j 1 :: j 2 :: d :: .int .i64 (i : Int) :: .int .i64 (n : Int) :: j 6 :: j 7 :: j 8 :: j 9 :: j 10 :: j 11 :: j 12 :: j 13 :: j 14 :: j 15 :: j 16 :: j 17 :: j 18 :: j 19 :: j 20 :: j 21 :: j 22 :: j 23 :: j 24 :: j 25 :: j 26 :: j 27 :: j 28 :: j 29 :: j 30 :: j 31 :: j 32 :: j 33 :: j 34 :: j 35 :: j 36 :: j 37 :: j 38 :: j 39 :: j 40 :: j 41 :: j 42 :: j 43 :: j 44 :: j 45 :: j 46 :: j 47 :: j 48 :: j 49 :: j 50 :: j 51 :: j 52 :: j 53 :: j 54 :: j 55 :: j 56 :: j 57 :: j 58 :: j 59 :: j 60 :: j 61 :: []), Hp⟩) ⟨Hp, d, E, by simpa [fronts] using se, junk rfl⟩ ?_
    clear s1 se E Hp d j
    rintro n st hn ⟨Hp, d, E, se, j, rfl⟩
    have s1 := SlOf.ext s E
    obtain ⟨p, cs, e1, e2, e3, e4⟩ := pf_elem s1 ha hil
    obtain ⟨q17, f1, f2⟩ := fa_of e2 17
    obtain ⟨q0, f3, f4⟩ := fa_of e2 0
    obtain ⟨q1, f5, f6⟩ := fa_of e2 1
    have cn := cells_n (ha.at i) e3
    have cv := cells_v e3
    have ca := cells_a (ha.at i) e3
    have cl : 16 ≤ (cs.drop 1).length := by rw [List.length_drop]; omega
    by_cases hnl : n ≤ (pfAt l i).n.toNat
    · have hnl' : (n : Int) ≤ (pfAt l i).n := by omega
      have e5 : IntKind.i64.wrap ((n : Int) + 1) = ((n + 1 : Nat) : Int) := by rw [w_i64 (by omega) (by omega)]; omega
      simp (disch := first | omega | (simp only [List.length_append, List.length_cons, List.length_nil]; omega)) only [c16r0, c16r1, c16r2, c16r3, c16r4, c16r5, c16r6, c16r7, c16r8, c16r9, c16r10, c16r11, c16r12, c16r13, c16l14, c16r15, c16r16, c16r17, c16l18, c16r19, c16l20, c16r21, s1.lend, s1.sort, e1, e2, f1, f2, f3, f4, f5, f6, cn, cv, ca, cl, hnl', go_sem, ↓reduceIte, reduceCtorEq, Nat.reduceAdd, Nat.reduceSub, Nat.reducePow, Nat.reduceMul, Nat.reduceEqDiff, Nat.reduceLT, Nat.reduceLeDiff, Int.reduceToNat, Int.reduceLT, Int.reduceLE, Int.reduceEq, Int.reduceNeg, Int.reduceAdd, Int.reduceSub, Int.reduceMul]
      have hmk : ∀ L : Heap, FC Try.prog 28 [.int .i64 (pfAt l i).v, .agg (ofBytes (pfAt l i).a), .int .i64 (n : Int)] (Hp ++ L) fun d h' => d = .tup [.agg (frontP (pfAt l i) n).cells, .int .i64 0] ∧ h' = Hp ++ L :=
        fun L => rmake_fc _ (pfAt l i).v (pfAt l i).a (ha.at i) n (fits_le hfit hnl')
      refine kfcL_of hmk ?_
      have hqa : (frontP (pfAt l i) n).a.length = 16 := frontTo_length _ _
      have hxa : Addrs (seenL (frontsTo l i ++ fronts (pfAt l i) n)) := ((frontsTo_addrs l i).append (fronts_addrs _ _)).seen
      have hxl : (seenL (frontsTo l i ++ fronts (pfAt l i) n)).length ≤ 1000000 := by
        have h1 := seenL_le (frontsTo l i ++ fronts (pfAt l i) n)
        have h2 : (fronts (pfAt l i) n).length = n := by simp [fronts]
        rw [List.length_append] at h1
        omega
      have hstep : seenL (frontsTo l i ++ fronts (pfAt l i) (n + 1)) = seenStep (seenL (frontsTo l i ++ fronts (pfAt l i) n)) (frontP (pfAt l i) n) := by
        rw [fronts_succ, ← List.append_assoc, seenL_snoc]
      generalize frontP (pfAt l i) n = q at *
      generalize hx : seenL (frontsTo l i ++ fronts (pfAt l i) n) = x at *
      have hc18 := Pf.cells_length hqa
      have hone : q.cells.all D.one = true := by rw [Pf.cells, List.all_cons, pr_one]; rfl
      have htk : q.cells.take 18 = q.cells := List.take_of_length_le (by omega)
      simp (disch := first | omega | (simp only [List.length_append, List.length_cons, List.length_nil]; omega)) only [hc18, hone, htk, fillD, splice0, go_sem, ↓reduceIte, reduceCtorEq, Nat.reduceAdd, Nat.reduceSub, Nat.reducePow, Nat.reduceMul, Nat.reduceEqDiff, Nat.reduceLT, Nat.reduceLeDiff, Int.reduceToNat, Int.reduceLT, Int.reduceLE, Int.reduceEq, Int.reduceNeg, Int.reduceAdd, Int.reduceSub, Int.reduceMul]
      have E1 : Ext h (Hp ++ [.box q.cells]) := Ext.app E _
      have se1 := se.ext (Ext.app (Ext.refl Hp) [.box q.cells])
      have bQ := last_get Hp (.box q.cells)
      have sx := se1.sl hxa
      generalize Hp ++ [.box q.cells] = H1 at *
      generalize Hp.length = Q at *
      refine loop_to x.length (fun k st => ∃ (b : Bool), b = decide (∀ j < k, pfAt x j ≠ q) ∧ ∃ (j : Nat → D), st = ⟨(lD :: j 1 :: j 2 :: d :: .int .i64 (i : Int) :: .int .i64 (n : Int) :: .ref Q 0 :: j 7 :: .bool b :: .int .i64 (k : Int) :: j 10 :: j 11 :: j 12 :: j 13 :: j 14 :: j 15 :: j 16 :: j 17 :: j 18 :: j 19 :: j 20 :: j 21 :: j 22 :: j 23 :: j 24 :: j 25 :: j 26 :: j 27 :: j 28 :: j 29 :: j 30 :: j 31 :: j 32 :: j 33 :: j 34 :: j 35 :: j 36 :: j 37 :: j 38 :: j 39 :: j 40 :: j 41 :: j 42 :: j 43 :: j 44 :: j 45 :: j 46 :: j 47 :: j 48 :: j 49 :: j 50 :: j 51 :: j 52 :: j 53 :: j 54 :: j 55 :: j 56 :: j 57 :: j 58 :: j 59 :: j 60 :: j 61 :: []), H1⟩) ⟨true, by simp, junk rfl⟩ ?_
      clear j
      rintro k st hk ⟨b, hb, j, rfl⟩
      have hfound : ∀ {k : Nat}, k ≤ x.length → decide (∀ j < k, pfAt x j ≠ q) = false → q ∈ x := fun {k} hk h => by
        simp only [decide_eq_false_iff_not, Classical.not_forall] at h
        obtain ⟨j, hj, h⟩ := h
        have : pfAt x j = q := Classical.not_not.1 h
        rw [← this]; exact pfAt_mem (by omega)
      have hnot : decide (∀ j < x.length, pfAt x j ≠ q) = true → q ∉ x := fun h hq => by
        simp only [decide_eq_true_eq] at h
        obtain ⟨j, hj, h2⟩ := mem_pfAt hq
        exact h j hj h2
      have bQ' : ∀ L : Heap, (H1 ++ L)[Q]? = some (.box q.cells) := fun L => (Ext.app (Ext.refl H1) L).get bQ
      cases b with
      | false =>
        have hin := hfound hk hb.symm
        have hst : seenStep x q = x := by unfold seenStep; rw [if_pos hin]
        by_cases hkl : k < x.length
        · have hkl' : (k : Int) < x.length := by omega
          simp (disch := first | omega | (simp only [List.length_append, List.length_cons, List.length_nil]; omega)) only [c16r0, c16r1, c16r2, c16r3, c16r4, c16r5, c16r6, c16r7, c16r8, c16r9, c16r10, c16r11, c16r12, c16r13, c16l14, c16r15, c16r16, c16r17, c16l18, c16r19, c16l20, c16r21, sx.lend, sx.sort, hkl', e5, go_sem, ↓reduceIte, reduceCtorEq, Nat.reduceAdd, Nat.reduceSub, Nat.reducePow, Nat.reduceMul, Nat.reduceEqDiff, Nat.reduceLT, Nat.reduceLeDiff, Int.reduceToNat, Int.reduceLT, Int.reduceLE, Int.reduceEq, Int.reduceNeg, Int.reduceAdd, Int.reduceSub, Int.reduceMul]
          exact ⟨by omega, H1, d, E1, by rw [hstep, hst]; exact se1, junk rfl⟩
        · have hkl' : ¬ (k : Int) < x.length := by omega
          simp (disch := first | omega | (simp only [List.length_append, List.length_cons, List.length_nil]; omega)) only [c16r0, c16r1, c16r2, c16r3, c16r4, c16r5, c16r6, c16r7, c16r8, c16r9, c16r10, c16r11, c16r12, c16r13, c16l14, c16r15, c16r16, c16r17, c16l18, c16r19, c16l20, c16r21, sx.lend, sx.sort, hkl', e5, go_sem, ↓reduceIte, reduceCtorEq, Nat.reduceAdd, Nat.reduceSub, Nat.reducePow, Nat.reduceMul, Nat.reduceEqDiff, Nat.reduceLT, Nat.reduceLeDiff, Int.reduceToNat, Int.reduceLT, Int.reduceLE, Int.reduceEq, Int.reduceNeg, Int.reduceAdd, Int.reduceSub, Int.reduceMul]
          exact ⟨by omega, H1, d, E1, by rw [hstep, hst]; exact se1, junk rfl⟩
      | true =>
        by_cases hkl : k < x.length
        · have hkl' : (k : Int) < x.length := by omega
          obtain ⟨p2, cs2, x1, x2, x3, x4⟩ := pf_elem sx hxa hkl
          have heq := eq_pf (hxa.at k) hqa
          have e6 : IntKind.i64.wrap ((k : Int) + 1) = ((k + 1 : Nat) : Int) := by rw [w_i64 (by omega) (by omega)]; omega
          simp (disch := first | omega | (simp only [List.length_append, List.length_cons, List.length_nil]; omega)) only [c16r0, c16r1, c16r2, c16r3, c16r4, c16r5, c16r6, c16r7, c16r8, c16r9, c16r10, c16r11, c16r12, c16r13, c16l14, c16r15, c16r16, c16r17, c16l18, c16r19, c16l20, c16r21, sx.lend, sx.sort, hkl', e6, x1, x2, x3, x4, bQ, hc18, htk, heq, go_sem, ↓reduceIte, reduceCtorEq, Nat.reduceAdd, Nat.reduceSub, Nat.reducePow, Nat.reduceMul, Nat.reduceEqDiff, Nat.reduceLT, Nat.reduceLeDiff, Int.reduceToNat, Int.reduceLT, Int.reduceLE, Int.reduceEq, Int.reduceNeg, Int.reduceAdd, Int.reduceSub, Int.reduceMul]
          refine ⟨hkl, _, ?_, junk rfl⟩
          have hb2 : ∀ j < k, pfAt x j ≠ q := by simpa using hb.symm
          rw [Bool.eq_iff_iff]
          simp only [Bool.not_eq_true', decide_eq_false_iff_not, decide_eq_true_eq]
          constructor
          · intro h j hj
            by_cases hjk : j = k
            · subst hjk; exact h
            · exact hb2 j (by omega)
          · intro h; exact h k (by omega)
        · have : k = x.length := by omega
          subst this
          have hkl' : ¬ (x.length : Int) < x.length := by omega
          have hni := hnot hb.symm
          have hst : seenStep x q = x ++ [q] := by unfold seenStep; rw [if_neg hni]
          obtain ⟨H2, d2, y1, y2, y3⟩ := se1.app q E1 hxl
          simp (disch := first | omega | (simp only [List.length_append, List.length_cons, List.length_nil]; omega)) only [c16r0, c16r1, c16r2, c16r3, c16r4, c16r5, c16r6, c16r7, c16r8, c16r9, c16r10, c16r11, c16r12, c16r13, c16l14, c16r15, c16r16, c16r17, c16l18, c16r19, c16l20, c16r21, sx.lend, sx.sort, hkl', bQ, hc18, hone, htk, splice0, y1, e5, go_sem, ↓reduceIte, reduceCtorEq, Nat.reduceAdd, Nat.reduceSub, Nat.reducePow, Nat.reduceMul, Nat.reduceEqDiff, Nat.reduceLT, Nat.reduceLeDiff, Int.reduceToNat, Int.reduceLT, Int.reduceLE, Int.reduceEq, Int.reduceNeg, Int.reduceAdd, Int.reduceSub, Int.reduceMul]
          exact ⟨by omega, H2, d2, y3, by rw [hstep, hst]; exact y2, junk rfl⟩
    · have hnl' : ¬ (n : Int) ≤ (pfAt l i).n := by omega
      have : n = (pfAt l i).n.toNat + 1 := by omega
      subst this
      have e5 : IntKind.i64.wrap ((i : Int) + 1) = ((i + 1 : Nat) : Int) := by rw [w_i64 (by omega) (by omega)]; omega
      simp (disch := first | omega | (simp only [List.length_append, List.length_cons, List.length_nil]; omega)) only [c16r0, c16r1, c16r2, c16r3, c16r4, c16r5, c16r6, c16r7, c16r8, c16r9, c16r10, c16r11, c16r12, c16r13, c16l14, c16r15, c16r16, c16r17, c16l18, c16r19, c16l20, c16r21, s1.lend, s1.sort, e1, e2, f1, f2, cn, hnl', e5, go_sem, ↓reduceIte, reduceCtorEq, Nat.reduceAdd, Nat.reduceSub, Nat.reducePow, Nat.reduceMul, Nat.reduceEqDiff, Nat.reduceLT, Nat.reduceLeDiff, Int.reduceToNat, Int.reduceLT, Int.reduceLE, Int.reduceEq, Int.reduceNeg, Int.reduceAdd, Int.reduceSub, Int.reduceMul]
      exact ⟨hil, Hp, d, E, by rw [frontsTo_succ]; exact se, junk rfl⟩
  · have hil' : ¬ (i : Int) < l.length := by omega
    have : i = l.length := by omega
    subst this
    have s2 := se.sl (frontsTo_addrs l _).seen
    simp (disch := first | omega | (simp only [List.length_append, List.length_cons, List.length_nil]; omega)) only [c16r0, c16r1, c16r2, c16r3, c16r4, c16r5, c16r6, c16r7, c16r8, c16r9, c16r10, c16r11, c16r12, c16r13, c16l14, c16r15, c16r16, c16r17, c16l18, c16r19, c16l20, c16r21, s1.lend, s1.sort, s2.lend, s2.sort, hil', go_sem, ↓reduceIte, reduceCtorEq, Nat.reduceAdd, Nat.reduceSub, Nat.reducePow, Nat.reduceMul, Nat.reduceEqDiff, Nat.reduceLT, Nat.reduceLeDiff, Int.reduceToNat, Int.reduceLT, Int.reduceLE, Int.reduceEq, Int.reduceNeg, Int.reduceAdd, Int.reduceSub, Int.reduceMul]
    exact fin_ext E rfl ⟨rfl, rfl⟩
end Go.Proofs

/-
  Own work. What a trie answers; no trie; live.
-/
namespace Go.Proofs
open Go Go.Ytecmopdncgekhaa
set_option linter.unusedVariables false
set_option linter.unusedSimpArgs false
set_option maxRecDepth 10000

/-! ### weighbridge/weighbridgelaw19.live, params 0 -/
def c8r0 : List AStm := [.op (some 0) none (.mv (.c (.bool false)))]
def c8r1 : List AStm := [.op (some 10) none (.build (List.replicate 16 (.int .u8 0)) [(0, 1, (.c (.int .u8 10)))]),
    .op (some 11) none (.build [(.int .i64 0), (.int .u8 0), (.int .u8 0), (.int .u8 0), (.int .u8 0), (.int .u8 0), (.int .u8 0), (.int .u8 0), (.int .u8 0), (.int .u8 0), (.int .u8 0), (.int .u8 0), (.int .u8 0), (.int .u8 0), (.int .u8 0), (.int .u8 0), (.int .u8 0), (.int .i64 0)] [(0, 1, (.c (.int .i64 4))), (1, 16, (.t 10)), (17, 1, (.c (.int .i64 8)))]),
    .op (some 1) none (.alloc [(.int .i64 0), (.int .u8 0), (.int .u8 0), (.int .u8 0), (.int .u8 0), (.int .u8 0), (.int .u8 0), (.int .u8 0), (.int .u8 0), (.int .u8 0), (.int .u8 0), (.int .u8 0), (.int .u8 0), (.int .u8 0), (.int .u8 0), (.int .u8 0), (.int .u8 0), (.int .i64 0)]),
    .op none none (.store 18 (.t 1) (.t 11))]
def c8r2 : List AStm := [.op (some 12) none (.build (List.replicate 16 (.int .u8 0)) [(0, 1, (.c (.int .u8 10))), (1, 1, (.c (.int .u8 128)))]),
    .op (some 13) none (.build [(.int .i64 0), (.int .u8 0), (.int .u8 0), (.int .u8 0), (.int .u8 0), (.int .u8 0), (.int .u8 0), (.int .u8 0), (.int .u8 0), (.int .u8 0), (.int .u8 0), (.int .u8 0), (.int .u8 0), (.int .u8 0), (.int .u8 0), (.int .u8 0), (.int .u8 0), (.int .i64 0)] [(0, 1, (.c (.int .i64 4))), (1, 16, (.t 12)), (17, 1, (.c (.int .i64 9)))]),
    .op (some 2) none (.alloc [(.int .i64 0), (.int .u8 0), (.int .u8 0), (.int .u8 0), (.int .u8 0), (.int .u8 0), (.int .u8 0), (.int .u8 0), (.int .u8 0), (.int .u8 0), (.int .u8 0), (.int .u8 0), (.int .u8 0), (.int .u8 0), (.int .u8 0), (.int .u8 0), (.int .u8 0), (.int .i64 0)]),
    .op none none (.store 18 (.t 2) (.t 13))]
def c8r3 : List AStm := [.op (some 15) none (.load (some 18) (.t 1)),
    .op (some 16) none (.load (some 18) (.t 2)),
    .op (some 17) none (.build [(.int .i64 0), (.int .u8 0), (.int .u8 0), (.int .u8 0), (.int .u8 0), (.int .u8 0), (.int .u8 0), (.int .u8 0), (.int .u8 0), (.int .u8 0), (.int .u8 0), (.int .u8 0), (.int .u8 0), (.int .u8 0), (.int .u8 0), (.int .u8 0), (.int .u8 0), (.int .i64 0)] [(0, 1, (.c (.int .i64 6)))]),
    .op (some 18) none (.load (some 18) (.t 1)),
    .op (some 19) none (.bslice 18 [(.int .i64 0), (.int .u8 0), (.int .u8 0), (.int .u8 0), (.int .u8 0), (.int .u8 0), (.int .u8 0), (.int .u8 0), (.int .u8 0), (.int .u8 0), (.int .u8 0), (.int .u8 0), (.int .u8 0), (.int .u8 0), (.int .u8 0), (.int .u8 0), (.int .u8 0), (.int .i64 0), (.int .i64 0), (.int .u8 0), (.int .u8 0), (.int .u8 0), (.int .u8 0), (.int .u8 0), (.int .u8 0), (.int .u8 0), (.int .u8 0), (.int .u8 0), (.int .u8 0), (.int .u8 0), (.int .u8 0), (.int .u8 0), (.int .u8 0), (.int .u8 0), (.int .u8 0), (.int .i64 0), (.int .i64 0), (.int .u8 0), (.int .u8 0), (.int .u8 0), (.int .u8 0), (.int .u8 0), (.int .u8 0), (.int .u8 0), (.int .u8 0), (.int .u8 0), (.int .u8 0), (.int .u8 0), (.int .u8 0), (.int .u8 0), (.int .u8 0), (.int .u8 0), (.int .u8 0), (.int .i64 0), (.int .i64 0), (.int .u8 0), (.int .u8 0), (.int .u8 0), (.int .u8 0), (.int .u8 0), (.int .u8 0), (.int .u8 0), (.int .u8 0), (.int .u8 0), (.int .u8 0), (.int .u8 0), (.int .u8 0), (.int .u8 0), (.int .u8 0), (.int .u8 0), (.int .u8 0), (.int .i64 0)] 4 [(0, 18, (.t 15)), (18, 18, (.t 16)), (36, 18, (.t 17)), (54, 18, (.t 18))]),
    .call (some 20) none (.c (.fn (.func 6) [] [])) [(.t 19)],
    .op (some 14) none (.mv (.t 20)),
    .op (some 21) none (.ext (.t 14) 0),
    .op (some 22) none (.ext (.t 14) 1),
    .op (some 4) none (.alloc [(.int .i64 0), (.int .i64 0)]),
    .op (some 3) none (.mv (.t 21)),
    .op none none (.store 2 (.t 4) (.t 22))]
def c8r4 : List AStm := [.op (some 24) none (.load (some 18) (.t 1)),
    .op (some 25) none (.build [(.int .i64 0), (.int .u8 0), (.int .u8 0), (.int .u8 0), (.int .u8 0), (.int .u8 0), (.int .u8 0), (.int .u8 0), (.int .u8 0), (.int .u8 0), (.int .u8 0), (.int .u8 0), (.int .u8 0), (.int .u8 0), (.int .u8 0), (.int .u8 0), (.int .u8 0), (.int .i64 0)] [(0, 1, (.c (.int .i64 4))), (17, 1, (.c (.int .i64 33)))]),
    .op (some 26) none (.bslice 18 [(.int .i64 0), (.int .u8 0), (.int .u8 0), (.int .u8 0), (.int .u8 0), (.int .u8 0), (.int .u8 0), (.int .u8 0), (.int .u8 0), (.int .u8 0), (.int .u8 0), (.int .u8 0), (.int .u8 0), (.int .u8 0), (.int .u8 0), (.int .u8 0), (.int .u8 0), (.int .i64 0), (.int .i64 0), (.int .u8 0), (.int .u8 0), (.int .u8 0), (.int .u8 0), (.int .u8 0), (.int .u8 0), (.int .u8 0), (.int .u8 0), (.int .u8 0), (.int .u8 0), (.int .u8 0), (.int .u8 0), (.int .u8 0), (.int .u8 0), (.int .u8 0), (.int .u8 0), (.int .i64 0)] 2 [(0, 18, (.t 24)), (18, 18, (.t 25))]),
    .call (some 27) none (.c (.fn (.func 6) [] [])) [(.t 26)],
    .op (some 23) none (.mv (.t 27)),
    .op (some 28) none (.ext (.t 23) 0),
    .op (some 29) none (.ext (.t 23) 1),
    .op (some 6) none (.alloc [(.int .i64 0), (.int .i64 0)]),
    .op (some 5) none (.mv (.t 28)),
    .op none none (.store 2 (.t 6) (.t 29))]
def c8r5 : List AStm := [.op (some 30) none (.mv (.t 3)),
    .op (some 31) none (.isnil false 1 (.t 30))]
def c8r6 : List AStm := [.op (some 0) none (.mv (.c (.bool false)))]
def c8r7 : List AStm := [.op (some 32) none (.mv (.t 3)),
    .op (some 33) none (.build (List.replicate 16 (.int .u8 0)) [(0, 1, (.c (.int .u8 10))), (1, 1, (.c (.int .u8 200)))]),
    .call (some 34) none (.c (.fn (.func 11) [] [])) [(.t 32), (.c (.int .i64 4)), (.t 33)],
    .op (some 7) none (.mv (.t 34))]
def c8r8 : List AStm := [.op (some 35) none (.mv (.t 3)),
    .op (some 36) none (.build (List.replicate 16 (.int .u8 0)) []),
    .call (some 37) none (.c (.fn (.func 11) [] [])) [(.t 35), (.c (.int .i64 6)), (.t 36)],
    .op (some 8) none (.mv (.t 37))]
def c8r9 : List AStm := [.op (some 9) none (.mv (.c .nilp))]
def c8r10 : List AStm := [.op (some 38) none (.load (some 2) (.t 4)),
    .op (some 39) none (.build [(.int .i64 0), (.int .i64 0)] []),
    .op (some 40) none (.eqa false [.ki, .ki] (.t 38) (.t 39)),
    .op (some 41) none (.mv (.t 40)),
    .op (some 42) (some (41, true)) (.load (some 2) (.t 6)),
    .op (some 43) (some (41, true)) (.build [(.int .i64 0), (.int .i64 0)] [(0, 1, (.c (.int .i64 1))), (1, 1, (.c (.int .i64 1)))]),
    .op (some 44) (some (41, true)) (.eqa false [.ki, .ki] (.t 42) (.t 43)),
    .op (some 45) none (.pick (.t 41) (.t 44) (.c (.bool false))),
    .op (some 46) none (.mv (.t 45)),
    .op (some 47) (some (46, true)) (.mv (.t 3)),
    .call (some 48) (some (46, true)) (.c (.fn (.func 9) [] [])) [(.t 47)],
    .op (some 49) (some (46, true)) (.bin .eql (.t 48) (.c (.int .i64 4))),
    .op (some 50) none (.pick (.t 46) (.t 49) (.c (.bool false))),
    .op (some 51) none (.mv (.t 50)),
    .op (some 52) (some (51, true)) (.mv (.t 7)),
    .op (some 53) (some (51, true)) (.len false (.t 52)),
    .op (some 54) (some (51, true)) (.bin .eql (.t 53) (.c (.int .i64 1))),
    .op (some 55) none (.pick (.t 51) (.t 54) (.c (.bool false))),
    .op (some 56) none (.mv (.t 55)),
    .op (some 57) (some (56, true)) (.mv (.t 7)),
    .op (some 58) (some (56, true)) (.ixs 1 (.t 57) (.c (.int .i64 0))),
    .op (some 59) (some (56, true)) (.load none (.t 58)),
    .op (some 60) (some (56, true)) (.bin .eql (.t 59) (.c (.int .u64 11))),
    .op (some 61) none (.pick (.t 56) (.t 60) (.c (.bool false))),
    .op (some 62) none (.mv (.t 61)),
    .op (some 63) (some (62, true)) (.mv (.t 8)),
    .op (some 64) (some (62, true)) (.len false (.t 63)),
    .op (some 65) (some (62, true)) (.bin .eql (.t 64) (.c (.int .i64 1))),
    .op (some 66) none (.pick (.t 62) (.t 65) (.c (.bool false))),
    .op (some 67) none (.mv (.t 66)),
    .op (some 68) (some (67, true)) (.mv (.t 8)),
    .op (some 69) (some (67, true)) (.ixs 1 (.t 68) (.c (.int .i64 0))),
    .op (some 70) (some (67, true)) (.load none (.t 69)),
    .op (some 71) (some (67, true)) (.bin .eql (.t 70) (.c (.int .u64 4))),
    .op (some 72) none (.pick (.t 67) (.t 71) (.c (.bool false))),
    .op (some 73) none (.mv (.t 72)),
    .op (some 74) (some (73, true)) (.mv (.t 3)),
    .op (some 75) (some (73, true)) (.build (List.replicate 16 (.int .u8 0)) [(0, 1, (.c (.int .u8 10))), (1, 1, (.c (.int .u8 200)))]),
    .call (some 76) (some (73, true)) (.c (.fn (.func 13) [] [])) [(.t 74), (.c (.int .i64 4)), (.t 75)],
    .op (some 77) (some (73, true)) (.bin .eql (.t 76) (.c (.int .i64 1))),
    .op (some 78) none (.pick (.t 73) (.t 77) (.c (.bool false))),
    .op (some 79) none (.mv (.t 78)),
    .op (some 80) (some (79, true)) (.mv (.t 3)),
    .op (some 81) (some (79, true)) (.build (List.replicate 16 (.int .u8 0)) [(0, 1, (.c (.int .u8 10)))]),
    .call (some 82) (some (79, true)) (.c (.fn (.func 13) [] [])) [(.t 80), (.c (.int .i64 4)), (.t 81)],
    .op (some 83) (some (79, true)) (.bin .eql (.t 82) (.c (.int .i64 0))),
    .op (some 84) none (.pick (.t 79) (.t 83) (.c (.bool false))),
    .op (some 85) none (.mv (.t 84)),
    .op (some 86) (some (85, true)) (.mv (.t 3)),
    .op (some 87) (some (85, true)) (.build (List.replicate 16 (.int .u8 0)) [(0, 1, (.c (.int .u8 11)))]),
    .call (some 88) (some (85, true)) (.c (.fn (.func 13) [] [])) [(.t 86), (.c (.int .i64 4)), (.t 87)],
    .op (some 89) (some (85, true)) (.bin .eql (.t 88) (.c (.int .i64 (-1)))),
    .op (some 90) none (.pick (.t 85) (.t 89) (.c (.bool false))),
    .op (some 91) none (.mv (.t 90)),
    .op (some 92) (some (91, true)) (.mv (.t 3)),
    .call (some 93) (some (91, true)) (.c (.fn (.func 15) [] [])) [(.t 92)],
    .op (some 94) (some (91, true)) (.bin .eql (.t 93) (.c (.int .i64 11))),
    .op (some 95) none (.pick (.t 91) (.t 94) (.c (.bool false))),
    .op (some 96) none (.mv (.t 95)),
    .op (some 97) (some (96, true)) (.mv (.t 9)),
    .call (some 98) (some (96, true)) (.c (.fn (.func 9) [] [])) [(.t 97)],
    .op (some 99) (some (96, true)) (.bin .eql (.t 98) (.c (.int .i64 0))),
    .op (some 100) none (.pick (.t 96) (.t 99) (.c (.bool false))),
    .op (some 101) none (.mv (.t 100)),
    .op (some 102) (some (101, true)) (.mv (.t 9)),
    .op (some 103) (some (101, true)) (.build (List.replicate 16 (.int .u8 0)) []),
    .call (some 104) (some (101, true)) (.c (.fn (.func 11) [] [])) [(.t 102), (.c (.int .i64 4)), (.t 103)],
    .op (some 105) (some (101, true)) (.len false (.t 104)),
    .op (some 106) (some (101, true)) (.bin .eql (.t 105) (.c (.int .i64 0))),
    .op (some 107) none (.pick (.t 101) (.t 106) (.c (.bool false))),
    .op (some 108) none (.mv (.t 107)),
    .op (some 109) (some (108, true)) (.mv (.t 9)),
    .op (some 110) (some (108, true)) (.build (List.replicate 16 (.int .u8 0)) []),
    .call (some 111) (some (108, true)) (.c (.fn (.func 13) [] [])) [(.t 109), (.c (.int .i64 4)), (.t 110)],
    .op (some 112) (some (108, true)) (.bin .eql (.t 111) (.c (.int .i64 (-1)))),
    .op (some 113) none (.pick (.t 108) (.t 112) (.c (.bool false))),
    .op (some 114) none (.mv (.t 113)),
    .op (some 115) (some (114, true)) (.mv (.t 9)),
    .call (some 116) (some (114, true)) (.c (.fn (.func 15) [] [])) [(.t 115)],
    .op (some 117) (some (114, true)) (.bin .eql (.t 116) (.c (.int .i64 0))),
    .op (some 118) none (.pick (.t 114) (.t 117) (.c (.bool false))),
    .op (some 0) none (.mv (.t 118))]
def c8 : CF := ⟨.seq (.reg c8r0) (.seq (.reg c8r1) (.seq (.reg c8r2) (.seq (.reg c8r3) (.seq (.reg c8r4) (.seq (.seq (.reg c8r5) (.cond (.t 31) (.seq (.reg c8r6) (.ret)) (.skip))) (.seq (.reg c8r7) (.seq (.reg c8r8) (.seq (.reg c8r9) (.seq (.reg c8r10) (.ret)))))))))), [.tmp 0], 119⟩
theorem cf8 : cfun Try.prog 8 = some c8 := by kernel_rfl



/-- The trie of prefixes. -/
structure TrieOf (h : Heap) (l : List Pf) (T : Nat) : Prop where
  len : l.length ≤ 256
  good : ∀ i < l.length, (pfAt l i).chk = 0
  at' : ∃ ns, TrieAt h T ns (EAt l l.length) l.length ∧ NodesAt l l.length ns
theorem TrieOf.ext {h h' : Heap} {l : List Pf} {T : Nat} (t : TrieOf h l T) (e : Ext h h') : TrieOf h' l T := by
  obtain ⟨ns, t1, t2⟩ := t.at'
  exact ⟨t.len, t.good, ns, t1.ext e, t2⟩
theorem tnew_md (h : Heap) (lD : D) (l : List Pf) (s : SlOf h 18 lD (pfs l) l.length) (ha : Addrs l) (hlen : l.length ≤ 1048576) :
    FC Try.prog 6 [lD] h fun d h' => Ext h h' ∧ ((chkPs l ≠ (0, 0) ∧ d = .tup [.nilp, .agg [.int .i64 (chkPs l).1, .int .i64 (chkPs l).2]]) ∨
      (chkPs l = (0, 0) ∧ ∃ T, d = .tup [.ref T 0, .agg [.int .i64 0, .int .i64 0]] ∧ TrieOf h' l T)) :=
  (New_fc h lD l s ha hlen).mono fun d h' ⟨e, hc⟩ => ⟨e, hc.imp id fun ⟨c1, c2, c3, T, ns, c4, c5, c6⟩ => ⟨c1, T, c4, c2, c3, ns, c5, c6⟩⟩
theorem tfind_md (h : Heap) (l : List Pf) (T : Nat) (t : TrieOf h l T) (v : Int) (a : List UInt8) (ha : a.length = 16) :
    FC Try.prog 11 [.ref T 0, .int .i64 v, .agg (ofBytes a)] h (Made h (find19 l v a)) := by
  obtain ⟨ns, t1, t2⟩ := t.at'
  have hl := t.len
  refine (find_fc h T l.length ns _ t1 (by omega) (fun h0 => ?_) (fun k s i hi => EAt_lt hi) (fun k s => by have := EAt_le l l.length k s; omega) v a ha).mono ?_
  · rw [h0] at t2
    cases ns with
    | nil => rfl
    | cons q ns =>
      obtain ⟨i, hi, _⟩ := (t2 q.k q.s).1 ⟨q, by simp, rfl, rfl⟩
      omega
  · rintro d h' ⟨n, hw, hm⟩
    rw [find_eq t.good t2 hw] at hm
    exact hm
theorem tlong_md (h : Heap) (l : List Pf) (T : Nat) (t : TrieOf h l T) (v : Int) (a : List UInt8) (ha : a.length = 16) :
    FC Try.prog 13 [.ref T 0, .int .i64 v, .agg (ofBytes a)] h fun d h' => d = .int .i64 (best19 l v a l.length) ∧ h' = h := by
  obtain ⟨ns, t1, t2⟩ := t.at'
  have hl := t.len
  refine (longest_fc h T l.length ns _ t1 (fun k s => by have := EAt_le l l.length k s; omega) v a ha).mono ?_
  rintro d h' ⟨n, hw, hd, hh⟩
  rw [longest_eq t.good t2 hw] at hd
  exact ⟨hd, hh⟩
theorem tlen_md (h : Heap) (l : List Pf) (T : Nat) (t : TrieOf h l T) :
    FC Try.prog 9 [.ref T 0] h fun d h' => d = .int .i64 (l.length : Int) ∧ h' = h := by
  obtain ⟨ns, t1, t2⟩ := t.at'
  exact Len_fc h T _ ns _ t1
theorem tnodes_md (h : Heap) (l : List Pf) (T : Nat) (t : TrieOf h l T) :
    FC Try.prog 15 [.ref T 0] h fun d h' => d = .int .i64 ((nodes19 l).length : Int) ∧ h' = h := by
  obtain ⟨ns, t1, t2⟩ := t.at'
  rw [← nodes_eq t.good t2 t1.nodup t1.keys]
  exact Nodes_fc h T _ ns _ t1
theorem TrieOf.isbox {h : Heap} {l : List Pf} {T : Nat} (t : TrieOf h l T) : ∃ cs, h[T]? = some (.box cs) := by
  obtain ⟨ns, t1, t2⟩ := t.at'
  exact ⟨_, t1.box⟩

theorem findNil_fc (h : Heap) (v : Int) (a : List UInt8) (ha : a.length = 16) :
    FC Try.prog 11 [.nilp, .int .i64 v, .agg (ofBytes a)] h (Made h []) := by
  have hal2 : (ofBytes a).length = 16 := by rw [ofBytes_length, ha]
  have hat : (ofBytes a).take 16 = ofBytes a := List.take_of_length_le (by omega)
  have l16 : 16 ≤ (ofBytes a).length := by omega
  refine FC.goes cf11 ?_; simp only [c11]; simp only [List.length_cons, List.length_nil, Nat.reduceAdd, Nat.reduceSub, List.replicate_succ, List.replicate_zero, List.cons_append, List.nil_append]
  simp (disch := first | omega | (simp only [List.length_append, List.length_cons, List.length_nil]; omega)) only [c11r0, c11r1, c11r2, c11r3, c11r4, c11r5, c11r6, c11r7, c11r8, c11l9, c11l10, c11l11, c11r12, go_sem, ↓reduceIte, reduceCtorEq, Nat.reduceAdd, Nat.reduceSub, Nat.reducePow, Nat.reduceMul, Nat.reduceEqDiff, Nat.reduceLT, Nat.reduceLeDiff, Int.reduceToNat, Int.reduceLT, Int.reduceLE, Int.reduceEq, Int.reduceNeg, Int.reduceAdd, Int.reduceSub, Int.reduceMul]
  refine gfc_of (LenNil_fc _) ?_
  rintro d h' ⟨rfl, e⟩
  rw [e]
  simp (disch := first | omega | (simp only [List.length_append, List.length_cons, List.length_nil]; omega)) only [go_sem, ↓reduceIte, reduceCtorEq, Nat.reduceAdd, Nat.reduceSub, Nat.reducePow, Nat.reduceMul, Nat.reduceEqDiff, Nat.reduceLT, Nat.reduceLeDiff, Int.reduceToNat, Int.reduceLT, Int.reduceLE, Int.reduceEq, Int.reduceNeg, Int.reduceAdd, Int.reduceSub, Int.reduceMul]
  refine gfc_of (new_fc _ 0 (by omega) (by omega)) ?_
  have hnew : newR 0 = [] := by decide
  rw [hnew]
  rintro d h' hd
  obtain ⟨L, hL, hrow⟩ : ∃ L, h' = h ++ .box (ofBytes a) :: L ∧ RowOf h' d [] := by
    rcases hd with ⟨rfl, _, _, rfl⟩ | ⟨rfl, rfl⟩
    · exact ⟨[], rfl, nils_of _ _⟩
    · exact ⟨_, by rw [List.append_assoc]; rfl, own_of (last_get _ _) rfl⟩
  clear hd
  have E : Ext h h' := ⟨_, hL⟩
  have hso := hrow.sort
  obtain ⟨o1, o2, o3⟩ := one_sl hso
  have bA : h'[h.length]? = some (.box (ofBytes a)) := by rw [hL]; simp (disch := first | omega | (simp only [List.length_append, List.length_cons, List.length_nil]; omega)) only [go_sem, ↓reduceIte, reduceCtorEq, Nat.reduceAdd, Nat.reduceSub, Nat.reducePow, Nat.reduceMul, Nat.reduceEqDiff, Nat.reduceLT, Nat.reduceLeDiff, Int.reduceToNat, Int.reduceLT, Int.reduceLE, Int.reduceEq, Int.reduceNeg, Int.reduceAdd, Int.reduceSub, Int.reduceMul]
  have bA' : ∀ L : Heap, (h' ++ L)[h.length]? = some (.box (ofBytes a)) := fun L => (Ext.app (Ext.refl h') L).get bA
  simp (disch := first | omega | (simp only [List.length_append, List.length_cons, List.length_nil]; omega)) only [fillD, splice0, hat, o1, o2, o3, bA, bA', go_sem, ↓reduceIte, reduceCtorEq, Nat.reduceAdd, Nat.reduceSub, Nat.reducePow, Nat.reduceMul, Nat.reduceEqDiff, Nat.reduceLT, Nat.reduceLeDiff, Int.reduceToNat, Int.reduceLT, Int.reduceLE, Int.reduceEq, Int.reduceNeg, Int.reduceAdd, Int.reduceSub, Int.reduceMul]
  refine gfc_of (way_fc _ .nilp rfl rfl v a ha) ?_
  rintro d2 h2 ⟨rfl, rfl⟩
  simp (disch := first | omega | (simp only [List.length_append, List.length_cons, List.length_nil]; omega)) only [go_sem, ↓reduceIte, reduceCtorEq, Nat.reduceAdd, Nat.reduceSub, Nat.reducePow, Nat.reduceMul, Nat.reduceEqDiff, Nat.reduceLT, Nat.reduceLeDiff, Int.reduceToNat, Int.reduceLT, Int.reduceLE, Int.reduceEq, Int.reduceNeg, Int.reduceAdd, Int.reduceSub, Int.reduceMul]
  refine gr_of 0 fun u w cu cv => ?_
  simp (disch := first | omega | (simp only [List.length_append, List.length_cons, List.length_nil]; omega)) only [List.replicate_zero, go_sem, ↓reduceIte, reduceCtorEq, Nat.reduceAdd, Nat.reduceSub, Nat.reducePow, Nat.reduceMul, Nat.reduceEqDiff, Nat.reduceLT, Nat.reduceLeDiff, Int.reduceToNat, Int.reduceLT, Int.reduceLE, Int.reduceEq, Int.reduceNeg, Int.reduceAdd, Int.reduceSub, Int.reduceMul]
  simp only [Nat.add_assoc, Nat.reduceAdd, List.append_assoc, List.cons_append, List.nil_append]
  generalize hT : ([.nilp, .int .i64 v, .agg (ofBytes a), .any, .any, .ref (List.length h) 0, .nils, .ref (List.length h') 0, .any, .any, .any, .nilp, .int .i64 0, d, .nilp, .int .i64 v,
      .agg (ofBytes a), .fn (.func 40) [] [.ref (List.length h' + 2) 0, .ref (List.length h' + 1) 0, .ref (List.length h' + 3) 0], .any, .any, .any, .any, .any, .any, .any, .any, .any, .any, .any, .any, .any, .any, .any, .any, .any, .any, .any, .any, .any, .any, .any] : List D) = Tm
  refine (way1Nil_fc v _ _ _ _ _ (by simp (disch := first | omega | (simp only [List.length_append, List.length_cons, List.length_nil]; omega)) only [go_sem, ↓reduceIte, reduceCtorEq, Nat.reduceAdd, Nat.reduceSub, Nat.reducePow, Nat.reduceMul, Nat.reduceEqDiff, Nat.reduceLT, Nat.reduceLeDiff, Int.reduceToNat, Int.reduceLT, Int.reduceLE, Int.reduceEq, Int.reduceNeg, Int.reduceAdd, Int.reduceSub, Int.reduceMul]) (by simp (disch := first | omega | (simp only [List.length_append, List.length_cons, List.length_nil]; omega)) only [go_sem, ↓reduceIte, reduceCtorEq, Nat.reduceAdd, Nat.reduceSub, Nat.reducePow, Nat.reduceMul, Nat.reduceEqDiff, Nat.reduceLT, Nat.reduceLeDiff, Int.reduceToNat, Int.reduceLT, Int.reduceLE, Int.reduceEq, Int.reduceNeg, Int.reduceAdd, Int.reduceSub, Int.reduceMul])).mono ?_
  rintro d3 h3 rfl
  refine ⟨.ready, none, by simp (disch := first | omega | (simp only [List.length_append, List.length_cons, List.length_nil]; omega)) only [go_sem, ↓reduceIte, reduceCtorEq, Nat.reduceAdd, Nat.reduceSub, Nat.reducePow, Nat.reduceMul, Nat.reduceEqDiff, Nat.reduceLT, Nat.reduceLeDiff, Int.reduceToNat, Int.reduceLT, Int.reduceLE, Int.reduceEq, Int.reduceNeg, Int.reduceAdd, Int.reduceSub, Int.reduceMul], by simp, ?_⟩
  subst hT
  simp (disch := first | omega | (simp only [List.length_append, List.length_cons, List.length_nil]; omega)) only [go_sem, ↓reduceIte, reduceCtorEq, Nat.reduceAdd, Nat.reduceSub, Nat.reducePow, Nat.reduceMul, Nat.reduceEqDiff, Nat.reduceLT, Nat.reduceLeDiff, Int.reduceToNat, Int.reduceLT, Int.reduceLE, Int.reduceEq, Int.reduceNeg, Int.reduceAdd, Int.reduceSub, Int.reduceMul]
  refine FinOk.all ⟨E.trans ⟨_, rfl⟩, ?_⟩
  exact hrow.ext ⟨_, rfl⟩
theorem longNil_fc (h : Heap) (v : Int) (a : List UInt8) (ha : a.length = 16) :
    FC Try.prog 13 [.nilp, .int .i64 v, .agg (ofBytes a)] h fun d h' => d = .int .i64 (-1) ∧ h' = h := by
  have hal2 : (ofBytes a).length = 16 := by rw [ofBytes_length, ha]
  have hat : (ofBytes a).take 16 = ofBytes a := List.take_of_length_le (by omega)
  have l16 : 16 ≤ (ofBytes a).length := by omega
  refine FC.goes cf13 ?_; simp only [c13]; simp only [List.length_cons, List.length_nil, Nat.reduceAdd, Nat.reduceSub, List.replicate_succ, List.replicate_zero, List.cons_append, List.nil_append]
  simp (disch := first | omega | (simp only [List.length_append, List.length_cons, List.length_nil]; omega)) only [c13r0, c13r1, c13r2, c13r3, c13r4, c13r5, c13l6, c13l7, c13r8, hat, fillD, splice0, go_sem, ↓reduceIte, reduceCtorEq, Nat.reduceAdd, Nat.reduceSub, Nat.reducePow, Nat.reduceMul, Nat.reduceEqDiff, Nat.reduceLT, Nat.reduceLeDiff, Int.reduceToNat, Int.reduceLT, Int.reduceLE, Int.reduceEq, Int.reduceNeg, Int.reduceAdd, Int.reduceSub, Int.reduceMul]
  refine gfc_of (way_fc _ .nilp rfl rfl v a ha) ?_
  rintro d h' ⟨rfl, rfl⟩
  simp (disch := first | omega | (simp only [List.length_append, List.length_cons, List.length_nil]; omega)) only [go_sem, ↓reduceIte, reduceCtorEq, Nat.reduceAdd, Nat.reduceSub, Nat.reducePow, Nat.reduceMul, Nat.reduceEqDiff, Nat.reduceLT, Nat.reduceLeDiff, Int.reduceToNat, Int.reduceLT, Int.reduceLE, Int.reduceEq, Int.reduceNeg, Int.reduceAdd, Int.reduceSub, Int.reduceMul]
  refine gr_of 0 fun u w cu cv => ?_
  simp (disch := first | omega | (simp only [List.length_append, List.length_cons, List.length_nil]; omega)) only [List.replicate_zero, go_sem, ↓reduceIte, reduceCtorEq, Nat.reduceAdd, Nat.reduceSub, Nat.reducePow, Nat.reduceMul, Nat.reduceEqDiff, Nat.reduceLT, Nat.reduceLeDiff, Int.reduceToNat, Int.reduceLT, Int.reduceLE, Int.reduceEq, Int.reduceNeg, Int.reduceAdd, Int.reduceSub, Int.reduceMul]
  simp only [Nat.add_assoc, Nat.reduceAdd, List.append_assoc, List.cons_append, List.nil_append]
  generalize hT : ([.nilp, .int .i64 v, .agg (ofBytes a), .any, .any, .ref (List.length h) 0, .int .i64 0, .ref (List.length h + 1) 0, .any, .nilp, .int .i64 v, .agg (ofBytes a), .fn (.func 40) [] [.ref (List.length h + 3) 0, .ref (List.length h + 2) 0, .ref (List.length h + 4) 0], .any, .any, .any, .any, .any, .any, .any, .any, .any, .any, .any, .any, .any, .any] : List D) = Tm
  refine (way1Nil_fc v _ _ _ _ _ (by simp (disch := first | omega | (simp only [List.length_append, List.length_cons, List.length_nil]; omega)) only [go_sem, ↓reduceIte, reduceCtorEq, Nat.reduceAdd, Nat.reduceSub, Nat.reducePow, Nat.reduceMul, Nat.reduceEqDiff, Nat.reduceLT, Nat.reduceLeDiff, Int.reduceToNat, Int.reduceLT, Int.reduceLE, Int.reduceEq, Int.reduceNeg, Int.reduceAdd, Int.reduceSub, Int.reduceMul]) (by simp (disch := first | omega | (simp only [List.length_append, List.length_cons, List.length_nil]; omega)) only [go_sem, ↓reduceIte, reduceCtorEq, Nat.reduceAdd, Nat.reduceSub, Nat.reducePow, Nat.reduceMul, Nat.reduceEqDiff, Nat.reduceLT, Nat.reduceLeDiff, Int.reduceToNat, Int.reduceLT, Int.reduceLE, Int.reduceEq, Int.reduceNeg, Int.reduceAdd, Int.reduceSub, Int.reduceMul])).mono ?_
  rintro d3 h3 rfl
  refine ⟨.ready, none, by simp (disch := first | omega | (simp only [List.length_append, List.length_cons, List.length_nil]; omega)) only [go_sem, ↓reduceIte, reduceCtorEq, Nat.reduceAdd, Nat.reduceSub, Nat.reducePow, Nat.reduceMul, Nat.reduceEqDiff, Nat.reduceLT, Nat.reduceLeDiff, Int.reduceToNat, Int.reduceLT, Int.reduceLE, Int.reduceEq, Int.reduceNeg, Int.reduceAdd, Int.reduceSub, Int.reduceMul], by simp, ?_⟩
  subst hT
  simp (disch := first | omega | (simp only [List.length_append, List.length_cons, List.length_nil]; omega)) only [go_sem, ↓reduceIte, reduceCtorEq, Nat.reduceAdd, Nat.reduceSub, Nat.reducePow, Nat.reduceMul, Nat.reduceEqDiff, Nat.reduceLT, Nat.reduceLeDiff, Int.reduceToNat, Int.reduceLT, Int.reduceLE, Int.reduceEq, Int.reduceNeg, Int.reduceAdd, Int.reduceSub, Int.reduceMul]
  exact FinOk.drop (.inl rfl) (by simp [underL, underD]) ⟨rfl, rfl⟩

def lvA : Pf := ⟨4, 10 :: zeros 15, 8⟩
def lvB : Pf := ⟨4, 10 :: 128 :: zeros 14, 9⟩
def lvL : List Pf := [lvA, lvB, ⟨6, zeros 16, 0⟩, lvA]
def lvM : List Pf := [lvA, ⟨4, zeros 16, 33⟩]
theorem lv_chk : chkPs lvL = (0, 0) := by decide +kernel
theorem lv_chk2 : chkPs lvM = (1, 1) := by decide +kernel
theorem lv_f1 : find19 lvL 4 (10 :: 200 :: zeros 14) = [11] := by decide +kernel
theorem lv_f2 : find19 lvL 6 (zeros 16) = [4] := by decide +kernel
theorem lv_b1 : best19 lvL 4 (10 :: 200 :: zeros 14) 4 = 1 := by decide +kernel
theorem lv_b2 : best19 lvL 4 (10 :: zeros 15) 4 = 0 := by decide +kernel
theorem lv_b3 : best19 lvL 4 (11 :: zeros 15) 4 = -1 := by decide +kernel
theorem lv_n : (nodes19 lvL).length = 11 := by decide +kernel

theorem live19 (h : Heap) : FC Try.prog 8 [] h fun d h' => d = .bool true ∧ h' = h := by
  refine FC.goes cf8 ?_; simp only [c8]; simp only [List.length_cons, List.length_nil, Nat.reduceAdd, Nat.reduceSub, List.replicate_succ, List.replicate_zero, List.cons_append, List.nil_append]
  simp (disch := first | omega | (simp only [List.length_append, List.length_cons, List.length_nil]; omega)) only [c8r0, c8r1, c8r2, c8r3, c8r4, c8r5, c8r6, c8r7, c8r8, c8r9, c8r10, List.replicate_succ, List.replicate_zero, fillD, splice0, go_sem, ↓reduceIte, reduceCtorEq, Nat.reduceAdd, Nat.reduceSub, Nat.reducePow, Nat.reduceMul, Nat.reduceEqDiff, Nat.reduceLT, Nat.reduceLeDiff, Int.reduceToNat, Int.reduceLT, Int.reduceLE, Int.reduceEq, Int.reduceNeg, Int.reduceAdd, Int.reduceSub, Int.reduceMul]
  generalize hH : h ++ ([_, _, _] : Heap) = H
  have E : Ext h H := ⟨_, hH.symm⟩
  have bA : H[h.length]? = some (.box lvA.cells) := by rw [← hH]; simp (disch := first | omega | (simp only [List.length_append, List.length_cons, List.length_nil]; omega)) only [go_sem, ↓reduceIte, reduceCtorEq, Nat.reduceAdd, Nat.reduceSub, Nat.reducePow, Nat.reduceMul, Nat.reduceEqDiff, Nat.reduceLT, Nat.reduceLeDiff, Int.reduceToNat, Int.reduceLT, Int.reduceLE, Int.reduceEq, Int.reduceNeg, Int.reduceAdd, Int.reduceSub, Int.reduceMul]; rfl
  have s1 : SlOf H 18 (.own (h.length + 2) 4) (pfs lvL) 4 := by
    refine own_of ?_ rfl
    rw [← hH]; simp (disch := first | omega | (simp only [List.length_append, List.length_cons, List.length_nil]; omega)) only [go_sem, ↓reduceIte, reduceCtorEq, Nat.reduceAdd, Nat.reduceSub, Nat.reducePow, Nat.reduceMul, Nat.reduceEqDiff, Nat.reduceLT, Nat.reduceLeDiff, Int.reduceToNat, Int.reduceLT, Int.reduceLE, Int.reduceEq, Int.reduceNeg, Int.reduceAdd, Int.reduceSub, Int.reduceMul]; rfl
  clear hH
  refine gfc_of (tnew_md H _ lvL s1 (by unfold Addrs; decide) (by decide)) ?_
  rintro d h1 ⟨E1, ⟨hc, -⟩ | ⟨-, T, rfl, t⟩⟩
  · exact absurd lv_chk hc
  have bA1 : ∀ L : Heap, (h1 ++ L)[h.length]? = some (.box [.int .i64 4, .int .u8 10, .int .u8 0, .int .u8 0, .int .u8 0, .int .u8 0, .int .u8 0, .int .u8 0, .int .u8 0, .int .u8 0, .int .u8 0, .int .u8 0, .int .u8 0, .int .u8 0, .int .u8 0, .int .u8 0, .int .u8 0, .int .i64 8]) := fun L => (Ext.app E1 L).get bA
  simp (disch := first | omega | (simp only [List.length_append, List.length_cons, List.length_nil]; omega)) only [List.replicate_succ, List.replicate_zero, fillD, splice0, bA1, go_sem, ↓reduceIte, reduceCtorEq, Nat.reduceAdd, Nat.reduceSub, Nat.reducePow, Nat.reduceMul, Nat.reduceEqDiff, Nat.reduceLT, Nat.reduceLeDiff, Int.reduceToNat, Int.reduceLT, Int.reduceLE, Int.reduceEq, Int.reduceNeg, Int.reduceAdd, Int.reduceSub, Int.reduceMul]
  generalize hH2 : h1 ++ ([_, _] : Heap) = H2
  have E2 : Ext h1 H2 := ⟨_, hH2.symm⟩
  have bF : H2[h1.length]? = some (.box [.int .i64 0, .int .i64 0]) := by rw [← hH2]; simp (disch := first | omega | (simp only [List.length_append, List.length_cons, List.length_nil]; omega)) only [go_sem, ↓reduceIte, reduceCtorEq, Nat.reduceAdd, Nat.reduceSub, Nat.reducePow, Nat.reduceMul, Nat.reduceEqDiff, Nat.reduceLT, Nat.reduceLeDiff, Int.reduceToNat, Int.reduceLT, Int.reduceLE, Int.reduceEq, Int.reduceNeg, Int.reduceAdd, Int.reduceSub, Int.reduceMul]
  have s2 : SlOf H2 18 (.own (h1.length + 1) 2) (pfs lvM) 2 := by
    refine own_of ?_ rfl
    rw [← hH2]; simp (disch := first | omega | (simp only [List.length_append, List.length_cons, List.length_nil]; omega)) only [go_sem, ↓reduceIte, reduceCtorEq, Nat.reduceAdd, Nat.reduceSub, Nat.reducePow, Nat.reduceMul, Nat.reduceEqDiff, Nat.reduceLT, Nat.reduceLeDiff, Int.reduceToNat, Int.reduceLT, Int.reduceLE, Int.reduceEq, Int.reduceNeg, Int.reduceAdd, Int.reduceSub, Int.reduceMul]; rfl
  clear hH2
  refine gfc_of (tnew_md H2 _ lvM s2 (by unfold Addrs; decide) (by decide)) ?_
  rintro d h2 ⟨E3, hcase⟩
  have hd : d = .tup [.nilp, .agg [.int .i64 1, .int .i64 1]] := by
    rcases hcase with ⟨-, h⟩ | ⟨hc, -⟩
    · rw [lv_chk2] at h; exact h
    · rw [lv_chk2] at hc; cases hc
  rw [hd]
  clear hcase hd
  have t2 := t.ext (E2.trans E3)
  have bF2 : ∀ L : Heap, (h2 ++ L)[h1.length]? = some (.box [.int .i64 0, .int .i64 0]) := fun L => (Ext.app E3 L).get bF
  obtain ⟨cT, bT⟩ := t2.isbox
  have bT2 : ∀ L : Heap, (h2 ++ L)[T]? = some (.box cT) := fun L => (Ext.app (Ext.refl h2) L).get bT
  have a1 : ofBytes (10 :: 200 :: zeros 14) = [.int .u8 10, .int .u8 200, .int .u8 0, .int .u8 0, .int .u8 0, .int .u8 0, .int .u8 0, .int .u8 0, .int .u8 0, .int .u8 0, .int .u8 0, .int .u8 0, .int .u8 0, .int .u8 0, .int .u8 0, .int .u8 0] := rfl
  have a2 : ofBytes (zeros 16) = [.int .u8 0, .int .u8 0, .int .u8 0, .int .u8 0, .int .u8 0, .int .u8 0, .int .u8 0, .int .u8 0, .int .u8 0, .int .u8 0, .int .u8 0, .int .u8 0, .int .u8 0, .int .u8 0, .int .u8 0, .int .u8 0] := rfl
  have a3 : ofBytes (10 :: zeros 15) = [.int .u8 10, .int .u8 0, .int .u8 0, .int .u8 0, .int .u8 0, .int .u8 0, .int .u8 0, .int .u8 0, .int .u8 0, .int .u8 0, .int .u8 0, .int .u8 0, .int .u8 0, .int .u8 0, .int .u8 0, .int .u8 0] := rfl
  have a4 : ofBytes (11 :: zeros 15) = [.int .u8 11, .int .u8 0, .int .u8 0, .int .u8 0, .int .u8 0, .int .u8 0, .int .u8 0, .int .u8 0, .int .u8 0, .int .u8 0, .int .u8 0, .int .u8 0, .int .u8 0, .int .u8 0, .int .u8 0, .int .u8 0] := rfl
  simp (disch := first | omega | (simp only [List.length_append, List.length_cons, List.length_nil]; omega)) only [List.replicate_succ, List.replicate_zero, fillD, splice0, bT2, go_sem, ↓reduceIte, reduceCtorEq, Nat.reduceAdd, Nat.reduceSub, Nat.reducePow, Nat.reduceMul, Nat.reduceEqDiff, Nat.reduceLT, Nat.reduceLeDiff, Int.reduceToNat, Int.reduceLT, Int.reduceLE, Int.reduceEq, Int.reduceNeg, Int.reduceAdd, Int.reduceSub, Int.reduceMul]
  generalize hH3 : h2 ++ ([_] : Heap) = H3
  have E4 : Ext h2 H3 := ⟨_, hH3.symm⟩
  have bG : H3[h2.length]? = some (.box [.int .i64 1, .int .i64 1]) := by rw [← hH3]; simp (disch := first | omega | (simp only [List.length_append, List.length_cons, List.length_nil]; omega)) only [go_sem, ↓reduceIte, reduceCtorEq, Nat.reduceAdd, Nat.reduceSub, Nat.reducePow, Nat.reduceMul, Nat.reduceEqDiff, Nat.reduceLT, Nat.reduceLeDiff, Int.reduceToNat, Int.reduceLT, Int.reduceLE, Int.reduceEq, Int.reduceNeg, Int.reduceAdd, Int.reduceSub, Int.reduceMul]
  clear hH3
  have t3 := t2.ext E4
  have c1 := tfind_md H3 lvL T t3 4 (10 :: 200 :: zeros 14) rfl
  rw [a1, lv_f1] at c1
  refine gfc_of c1 ?_
  rintro d3 h3 ⟨E5, r1⟩
  have t4 := t3.ext E5
  have c2 := tfind_md h3 lvL T t4 6 (zeros 16) rfl
  rw [a2, lv_f2] at c2
  simp (disch := first | omega | (simp only [List.length_append, List.length_cons, List.length_nil]; omega)) only [List.replicate_succ, List.replicate_zero, fillD, splice0, go_sem, ↓reduceIte, reduceCtorEq, Nat.reduceAdd, Nat.reduceSub, Nat.reducePow, Nat.reduceMul, Nat.reduceEqDiff, Nat.reduceLT, Nat.reduceLeDiff, Int.reduceToNat, Int.reduceLT, Int.reduceLE, Int.reduceEq, Int.reduceNeg, Int.reduceAdd, Int.reduceSub, Int.reduceMul]
  refine gfc_of c2 ?_
  rintro d4 h4 ⟨E6, r2⟩
  have t5 := t4.ext E6
  have bF4 := (E3.trans (E4.trans (E5.trans E6))).get bF
  have bG4 := (E5.trans E6).get bG
  have r1' : RowOf h4 d3 [11] := r1.ext E6
  obtain ⟨p1, cs1, x1, x2, x3⟩ := SlOf.elem (k := .i64) (i := 0) r1' (by omega) (by decide)
  obtain ⟨p2, cs2, y1, y2, y3⟩ := SlOf.elem (k := .i64) (i := 0) r2 (by omega) (by decide)
  have x4 : cs1[0]? = some (.int .u64 11) := x3 0 (by omega)
  have y4 : cs2[0]? = some (.int .u64 4) := y3 0 (by omega)
  have l1 := SlOf.lend r1'
  have l2 := SlOf.lend r2
  have o1 := SlOf.sort r1'
  have o2 := SlOf.sort r2
  simp (disch := first | omega | (simp only [List.length_append, List.length_cons, List.length_nil]; omega)) only [List.replicate_succ, List.replicate_zero, fillD, splice0, bF4, bG4, go_sem, ↓reduceIte, reduceCtorEq, Nat.reduceAdd, Nat.reduceSub, Nat.reducePow, Nat.reduceMul, Nat.reduceEqDiff, Nat.reduceLT, Nat.reduceLeDiff, Int.reduceToNat, Int.reduceLT, Int.reduceLE, Int.reduceEq, Int.reduceNeg, Int.reduceAdd, Int.reduceSub, Int.reduceMul]
  refine gfc_of (tlen_md h4 lvL T t5) ?_
  rintro d h' ⟨rfl, e⟩
  rw [e, show lvL.length = 4 from rfl]
  have c3 := tlong_md h4 lvL T t5 4 (10 :: 200 :: zeros 14) rfl
  rw [a1, show lvL.length = 4 from rfl, lv_b1] at c3
  simp (disch := first | omega | (simp only [List.length_append, List.length_cons, List.length_nil]; omega)) only [List.replicate_succ, List.replicate_zero, fillD, splice0, bF4, bG4, x1, x2, x4, y1, y2, y4, l1, l2, o1, o2, go_sem, ↓reduceIte, reduceCtorEq, Nat.reduceAdd, Nat.reduceSub, Nat.reducePow, Nat.reduceMul, Nat.reduceEqDiff, Nat.reduceLT, Nat.reduceLeDiff, Int.reduceToNat, Int.reduceLT, Int.reduceLE, Int.reduceEq, Int.reduceNeg, Int.reduceAdd, Int.reduceSub, Int.reduceMul]
  refine gfc_of c3 ?_
  rintro d h' ⟨rfl, e⟩
  rw [e]
  have c4 := tlong_md h4 lvL T t5 4 (10 :: zeros 15) rfl
  rw [a3, show lvL.length = 4 from rfl, lv_b2] at c4
  simp (disch := first | omega | (simp only [List.length_append, List.length_cons, List.length_nil]; omega)) only [List.replicate_succ, List.replicate_zero, fillD, splice0, go_sem, ↓reduceIte, reduceCtorEq, Nat.reduceAdd, Nat.reduceSub, Nat.reducePow, Nat.reduceMul, Nat.reduceEqDiff, Nat.reduceLT, Nat.reduceLeDiff, Int.reduceToNat, Int.reduceLT, Int.reduceLE, Int.reduceEq, Int.reduceNeg, Int.reduceAdd, Int.reduceSub, Int.reduceMul]
  refine gfc_of c4 ?_
  rintro d h' ⟨rfl, e⟩
  rw [e]
  have c5 := tlong_md h4 lvL T t5 4 (11 :: zeros 15) rfl
  rw [a4, show lvL.length = 4 from rfl, lv_b3] at c5
  simp (disch := first | omega | (simp only [List.length_append, List.length_cons, List.length_nil]; omega)) only [List.replicate_succ, List.replicate_zero, fillD, splice0, go_sem, ↓reduceIte, reduceCtorEq, Nat.reduceAdd, Nat.reduceSub, Nat.reducePow, Nat.reduceMul, Nat.reduceEqDiff, Nat.reduceLT, Nat.reduceLeDiff, Int.reduceToNat, Int.reduceLT, Int.reduceLE, Int.reduceEq, Int.reduceNeg, Int.reduceAdd, Int.reduceSub, Int.reduceMul]
  refine gfc_of c5 ?_
  rintro d h' ⟨rfl, e⟩
  rw [e]
  have c6 := tnodes_md h4 lvL T t5
  rw [lv_n] at c6
  simp (disch := first | omega | (simp only [List.length_append, List.length_cons, List.length_nil]; omega)) only [List.replicate_succ, List.replicate_zero, fillD, splice0, go_sem, ↓reduceIte, reduceCtorEq, Nat.reduceAdd, Nat.reduceSub, Nat.reducePow, Nat.reduceMul, Nat.reduceEqDiff, Nat.reduceLT, Nat.reduceLeDiff, Int.reduceToNat, Int.reduceLT, Int.reduceLE, Int.reduceEq, Int.reduceNeg, Int.reduceAdd, Int.reduceSub, Int.reduceMul]
  refine gfc_of c6 ?_
  rintro d h' ⟨rfl, e⟩
  rw [e]
  simp (disch := first | omega | (simp only [List.length_append, List.length_cons, List.length_nil]; omega)) only [List.replicate_succ, List.replicate_zero, fillD, splice0, go_sem, ↓reduceIte, reduceCtorEq, Nat.reduceAdd, Nat.reduceSub, Nat.reducePow, Nat.reduceMul, Nat.reduceEqDiff, Nat.reduceLT, Nat.reduceLeDiff, Int.reduceToNat, Int.reduceLT, Int.reduceLE, Int.reduceEq, Int.reduceNeg, Int.reduceAdd, Int.reduceSub, Int.reduceMul]
  refine gfc_of (LenNil_fc h4) ?_
  rintro d h' ⟨rfl, e⟩
  rw [e]
  have c7 := findNil_fc h4 4 (zeros 16) rfl
  rw [a2] at c7
  simp (disch := first | omega | (simp only [List.length_append, List.length_cons, List.length_nil]; omega)) only [List.replicate_succ, List.replicate_zero, fillD, splice0, go_sem, ↓reduceIte, reduceCtorEq, Nat.reduceAdd, Nat.reduceSub, Nat.reducePow, Nat.reduceMul, Nat.reduceEqDiff, Nat.reduceLT, Nat.reduceLeDiff, Int.reduceToNat, Int.reduceLT, Int.reduceLE, Int.reduceEq, Int.reduceNeg, Int.reduceAdd, Int.reduceSub, Int.reduceMul]
  refine gfc_of c7 ?_
  rintro d5 h5 ⟨E7, r3⟩
  have l3 := SlOf.lend r3
  have o3 := SlOf.sort r3
  have c8 := longNil_fc h5 4 (zeros 16) rfl
  rw [a2] at c8
  simp (disch := first | omega | (simp only [List.length_append, List.length_cons, List.length_nil]; omega)) only [List.replicate_succ, List.replicate_zero, fillD, splice0, l3, o3, go_sem, ↓reduceIte, reduceCtorEq, Nat.reduceAdd, Nat.reduceSub, Nat.reducePow, Nat.reduceMul, Nat.reduceEqDiff, Nat.reduceLT, Nat.reduceLeDiff, Int.reduceToNat, Int.reduceLT, Int.reduceLE, Int.reduceEq, Int.reduceNeg, Int.reduceAdd, Int.reduceSub, Int.reduceMul]
  refine gfc_of c8 ?_
  rintro d h' ⟨rfl, e⟩
  rw [e]
  simp (disch := first | omega | (simp only [List.length_append, List.length_cons, List.length_nil]; omega)) only [List.replicate_succ, List.replicate_zero, fillD, splice0, go_sem, ↓reduceIte, reduceCtorEq, Nat.reduceAdd, Nat.reduceSub, Nat.reducePow, Nat.reduceMul, Nat.reduceEqDiff, Nat.reduceLT, Nat.reduceLeDiff, Int.reduceToNat, Int.reduceLT, Int.reduceLE, Int.reduceEq, Int.reduceNeg, Int.reduceAdd, Int.reduceSub, Int.reduceMul]
  refine gfc_of (NodesNil_fc h5) ?_
  rintro d h' ⟨rfl, e⟩
  rw [e]
  simp (disch := first | omega | (simp only [List.length_append, List.length_cons, List.length_nil]; omega)) only [List.replicate_succ, List.replicate_zero, fillD, splice0, go_sem, ↓reduceIte, reduceCtorEq, Nat.reduceAdd, Nat.reduceSub, Nat.reducePow, Nat.reduceMul, Nat.reduceEqDiff, Nat.reduceLT, Nat.reduceLeDiff, Int.reduceToNat, Int.reduceLT, Int.reduceLE, Int.reduceEq, Int.reduceNeg, Int.reduceAdd, Int.reduceSub, Int.reduceMul]
  exact fin_ext (E.trans (E1.trans (E2.trans (E3.trans (E4.trans (E5.trans (E6.trans E7))))))) rfl ⟨rfl, rfl⟩
end Go.Proofs

/-
  Own work. The laws TrieFinds and TrieNodes.
-/
namespace Go.Proofs
open Go Go.Ytecmopdncgekhaa
set_option linter.unusedVariables false
set_option linter.unusedSimpArgs false
set_option maxRecDepth 10000

/-! ### weighbridge/weighbridgelaw19.TrieFinds, params 3 -/
def c3r0 : List AStm := [.op (some 5) none (.box (.t 2)),
    .op (some 6) none (.mv (.c (.bool false)))]
def c3r1 : List AStm := [.op (some 11) none (.mv (.t 0)),
    .call (some 12) none (.c (.fn (.func 6) [] [])) [(.t 11)],
    .op (some 10) none (.mv (.t 12)),
    .op (some 13) none (.ext (.t 10) 0),
    .op (some 14) none (.ext (.t 10) 1),
    .op (some 8) none (.alloc [(.int .i64 0), (.int .i64 0)]),
    .op (some 7) none (.mv (.t 13)),
    .op none none (.store 2 (.t 8) (.t 14))]
def c3r2 : List AStm := [.op (some 15) none (.mv (.t 0)),
    .call (some 16) none (.c (.fn (.func 7) [] [])) [(.t 15)],
    .op (some 9) none (.alloc [(.int .i64 0), (.int .i64 0)]),
    .op none none (.store 2 (.t 9) (.t 16))]
def c3r3 : List AStm := [.op (some 17) none (.load (some 2) (.t 8)),
    .op (some 18) none (.load (some 2) (.t 9)),
    .op (some 19) none (.eqa true [.ki, .ki] (.t 17) (.t 18)),
    .op (some 20) none (.mv (.t 19)),
    .op (some 21) (some (20, false)) (.mv (.t 7)),
    .op (some 22) (some (20, false)) (.isnil false 1 (.t 21)),
    .op (some 23) (some (20, false)) (.load (some 2) (.t 9)),
    .op (some 24) (some (20, false)) (.build [(.int .i64 0), (.int .i64 0)] []),
    .op (some 25) (some (20, false)) (.eqa true [.ki, .ki] (.t 23) (.t 24)),
    .op (some 26) (some (20, false)) (.eqb true (.t 22) (.t 25)),
    .op (some 27) none (.pick (.t 20) (.c (.bool true)) (.t 26))]
def c3r4 : List AStm := [.op (some 6) none (.mv (.c (.bool false)))]
def c3r5 : List AStm := [.op (some 28) none (.mv (.t 7)),
    .op (some 29) none (.isnil false 1 (.t 28))]
def c3r6 : List AStm := [.call (some 30) none (.c (.fn (.func 8) [] [])) [],
    .op (some 6) none (.mv (.t 30))]
def c3r7 : List AStm := []
def c3r8 : List AStm := [.callG (some 31) none (.c (.fn (.func 8) [] [])) [],
    .op (some 32) none (.mv (.t 31)),
    .op (some 33) (some (32, true)) (.mv (.t 7)),
    .op (some 35) (some (32, true)) (.mv (.t 0)),
    .op (some 36) (some (32, true)) (.len false (.t 35)),
    .callG (some 34) (some (32, true)) (.c (.fn (.func 9) [] [])) [(.t 33)],
    .op (some 37) (some (32, true)) (.bin .eql (.t 34) (.t 36)),
    .op (some 38) none (.pick (.t 32) (.t 37) (.c (.bool false))),
    .op (some 39) none (.mv (.t 38)),
    .op (some 40) (some (39, true)) (.mv (.t 7)),
    .op (some 41) (some (39, true)) (.mv (.t 1)),
    .op (some 42) (some (39, true)) (.load (some 16) (.t 5)),
    .op (some 44) (some (39, true)) (.mv (.t 0)),
    .op (some 45) (some (39, true)) (.mv (.t 1)),
    .op (some 46) (some (39, true)) (.load (some 16) (.t 5)),
    .callG (some 43) (some (39, true)) (.c (.fn (.func 11) [] [])) [(.t 40), (.t 41), (.t 42)],
    .callG (some 47) (some (39, true)) (.c (.fn (.func 12) [] [])) [(.t 44), (.t 45), (.t 46)],
    .callG (some 48) (some (39, true)) (.c (.fn (.func 10) [] [])) [(.t 43), (.t 47)],
    .op (some 49) none (.pick (.t 39) (.t 48) (.c (.bool false))),
    .op (some 50) none (.mv (.t 49)),
    .op (some 51) (some (50, true)) (.mv (.t 7)),
    .op (some 52) (some (50, true)) (.mv (.t 1)),
    .op (some 53) (some (50, true)) (.load (some 16) (.t 5)),
    .op (some 55) (some (50, true)) (.mv (.t 0)),
    .op (some 56) (some (50, true)) (.mv (.t 1)),
    .op (some 57) (some (50, true)) (.load (some 16) (.t 5)),
    .callG (some 54) (some (50, true)) (.c (.fn (.func 13) [] [])) [(.t 51), (.t 52), (.t 53)],
    .call (some 58) (some (50, true)) (.c (.fn (.func 14) [] [])) [(.t 55), (.t 56), (.t 57)],
    .op (some 59) (some (50, true)) (.bin .eql (.t 54) (.t 58)),
    .op (some 60) none (.pick (.t 50) (.t 59) (.c (.bool false))),
    .op (some 6) none (.mv (.t 60))]
def c3 : CF := ⟨.seq (.reg c3r0) (.seq (.reg c3r1) (.seq (.reg c3r2) (.seq (.seq (.reg c3r3) (.cond (.t 27) (.seq (.reg c3r4) (.ret)) (.skip))) (.seq (.seq (.reg c3r5) (.cond (.t 29) (.seq (.reg c3r6) (.ret)) (.skip))) (.seq (.dreg c3r7 c3r8) (.ret)))))), [.tmp 6], 61⟩
theorem cf3 : cfun Try.prog 3 = some c3 := by kernel_rfl

/-! ### weighbridge/weighbridgelaw19.TrieNodes, params 1 -/
def c4r0 : List AStm := [.op (some 2) none (.mv (.c (.bool false)))]
def c4r1 : List AStm := [.op (some 5) none (.mv (.t 0)),
    .op (some 6) none (.len false (.t 5)),
    .op (some 7) none (.bin .gtr (.t 6) (.c (.int .i64 12)))]
def c4r2 : List AStm := [.op (some 8) none (.mv (.t 0)),
    .op (some 9) none (.slc 18 (.t 8) none (some (.c (.int .i64 12)))),
    .op (some 0) none (.mv (.t 9))]
def c4r3 : List AStm := [.op (some 11) none (.mv (.t 0)),
    .call (some 12) none (.c (.fn (.func 6) [] [])) [(.t 11)],
    .op (some 10) none (.mv (.t 12)),
    .op (some 13) none (.ext (.t 10) 0),
    .op (some 14) none (.ext (.t 10) 1),
    .op (some 4) none (.alloc [(.int .i64 0), (.int .i64 0)]),
    .op (some 3) none (.mv (.t 13)),
    .op none none (.store 2 (.t 4) (.t 14))]
def c4r4 : List AStm := [.op (some 15) none (.mv (.t 3)),
    .op (some 16) none (.isnil false 1 (.t 15))]
def c4r5 : List AStm := [.call (some 17) none (.c (.fn (.func 8) [] [])) [],
    .op (some 18) none (.mv (.t 17)),
    .op (some 19) (some (18, true)) (.load (some 2) (.t 4)),
    .op (some 20) (some (18, true)) (.build [(.int .i64 0), (.int .i64 0)] []),
    .op (some 21) (some (18, true)) (.eqa true [.ki, .ki] (.t 19) (.t 20)),
    .op (some 22) none (.pick (.t 18) (.t 21) (.c (.bool false))),
    .op (some 2) none (.mv (.t 22))]
def c4r6 : List AStm := [.call (some 23) none (.c (.fn (.func 8) [] [])) [],
    .op (some 24) none (.mv (.t 23)),
    .op (some 25) (some (24, true)) (.mv (.t 3)),
    .call (some 26) (some (24, true)) (.c (.fn (.func 15) [] [])) [(.t 25)],
    .op (some 27) (some (24, true)) (.mv (.t 0)),
    .call (some 28) (some (24, true)) (.c (.fn (.func 16) [] [])) [(.t 27)],
    .op (some 29) (some (24, true)) (.bin .eql (.t 26) (.t 28)),
    .op (some 30) none (.pick (.t 24) (.t 29) (.c (.bool false))),
    .op (some 2) none (.mv (.t 30))]
def c4 : CF := ⟨.seq (.reg c4r0) (.seq (.seq (.reg c4r1) (.cond (.t 7) (.reg c4r2) (.skip))) (.seq (.reg c4r3) (.seq (.seq (.reg c4r4) (.cond (.t 16) (.seq (.reg c4r5) (.ret)) (.skip))) (.seq (.reg c4r6) (.ret))))), [.tmp 2], 31⟩
theorem cf4 : cfun Try.prog 4 = some c4 := by kernel_rfl



/-! ### Openers -/
theorem pf_enc {x : (Sh.pair (.int .i64) (.pair (.arr 16 (.int .u8)) (.pair (.int .i64) .unit))).T} {cs : List D} (ok : (Sh.pair (.int .i64) (.pair (.arr 16 (.int .u8)) (.pair (.int .i64) .unit))).ok x) (en : (Sh.pair (.int .i64) (.pair (.arr 16 (.int .u8)) (.pair (.int .i64) .unit))).Enc x cs) : ∃ p : Pf, p.a.length = 16 ∧ cs = p.cells := by
  obtain ⟨c1, r1, e1, ⟨c2, r2, e2, ⟨c3, r3, e3, e4, rfl⟩, rfl⟩, rfl⟩ := en
  simp only [Sh.Enc] at e1 e3 e4
  subst e1; subst e3; subst e4
  have h2 : c2 = (x.2.1 : List Int).map (D.int .u8) := encL_map.1 e2
  obtain ⟨l, h3, _, h4⟩ := u8_bytes (zs := (x.2.1 : List Int)) ok.2.1.2
  refine ⟨⟨x.1, l, x.2.2.1⟩, by show l.length = 16; rw [h4]; exact ok.2.1.1, ?_⟩
  rw [h2, h3]; rfl
theorem pfs_enc : ∀ {xs : List (Sh.pair (.int .i64) (.pair (.arr 16 (.int .u8)) (.pair (.int .i64) .unit))).T} {es : List D}, (∀ x ∈ xs, (Sh.pair (.int .i64) (.pair (.arr 16 (.int .u8)) (.pair (.int .i64) .unit))).ok x) → EncL (Sh.pair (.int .i64) (.pair (.arr 16 (.int .u8)) (.pair (.int .i64) .unit))).Enc xs es → ∃ l : List Pf, Addrs l ∧ l.length = xs.length ∧ es = pfs l
  | [], es, _, h => by
    simp only [EncL] at h
    subst h
    exact ⟨[], by simp [Addrs], rfl, rfl⟩
  | x :: xs, es, ok, h => by
    obtain ⟨a, b, h1, h2, rfl⟩ := h
    obtain ⟨l, q1, q2, rfl⟩ := pfs_enc (fun y hy => ok y (by simp [hy])) h2
    obtain ⟨p, p1, rfl⟩ := pf_enc (ok x (by simp)) h1
    refine ⟨p :: l, ?_, by simp [q2], by simp [pfs]⟩
    intro r hr
    rcases List.mem_cons.1 hr with rfl | hr
    · exact p1
    · exact q1 r hr
theorem pfs_open {x : (Sh.sl (Sh.pair (.int .i64) (.pair (.arr 16 (.int .u8)) (.pair (.int .i64) .unit)))).T} {d : D} (ok : (Sh.sl (Sh.pair (.int .i64) (.pair (.arr 16 (.int .u8)) (.pair (.int .i64) .unit)))).ok x) (en : (Sh.sl (Sh.pair (.int .i64) (.pair (.arr 16 (.int .u8)) (.pair (.int .i64) .unit)))).EncV x d) :
    ∃ l : List Pf, Addrs l ∧ l.length ≤ (Sh.sl (Sh.pair (.int .i64) (.pair (.arr 16 (.int .u8)) (.pair (.int .i64) .unit)))).vol x ∧ ((d = .nils ∧ l = []) ∨ d = .sl (pfs l) l.length false) := by
  simp only [Sh.EncV, Sh.Enc] at en
  rcases en with ⟨rfl, h1⟩ | ⟨es, h1, h2⟩
  · simp only [List.cons.injEq, and_true] at h1
    subst h1
    exact ⟨[], by simp [Addrs], by simp, .inl ⟨rfl, rfl⟩⟩
  · obtain ⟨l, q1, q2, rfl⟩ := pfs_enc ok h1
    simp only [List.cons.injEq, and_true] at h2
    subst h2
    refine ⟨l, q1, ?_, .inr (by rw [q2])⟩
    have := sumBy_ge (f := (Sh.pair (.int .i64) (.pair (.arr 16 (.int .u8)) (.pair (.int .i64) .unit))).vol) (fun x => by simp only [Sh.vol]; omega) (x : List (Sh.pair (.int .i64) (.pair (.arr 16 (.int .u8)) (.pair (.int .i64) .unit))).T)
    simp only [Sh.vol] at this ⊢
    rw [q2]; omega
theorem pfs_sl {l : List Pf} {d : D} (ha : Addrs l) (hd : (d = .nils ∧ l = []) ∨ d = .sl (pfs l) l.length false) (h : Heap) : SlOf h 18 d (pfs l) l.length := by
  rcases hd with ⟨rfl, rfl⟩ | rfl
  · exact nils_of h 18
  · exact sl_of h 18 _ _ _ (by rw [pfs_length ha])

theorem finds_fc (h : Heap) (lD : D) (l : List Pf) (hs : ∀ h, SlOf h 18 lD (pfs l) l.length) (ha : Addrs l) (hlen : l.length ≤ 1048576) (v : Int) (a : List UInt8) (hal : a.length = 16) :
    FC Try.prog 3 [lD, .int .i64 v, .agg (ofBytes a)] h fun d h' => d = .bool true ∧ h' = h := by
  have hal2 : (ofBytes a).length = 16 := by rw [ofBytes_length, hal]
  have p7 : List.take 16 (ofBytes a) = ofBytes a := List.take_of_length_le (by omega)
  refine FC.goes cf3 ?_; simp only [c3]; simp only [List.length_cons, List.length_nil, Nat.reduceAdd, Nat.reduceSub, List.replicate_succ, List.replicate_zero, List.cons_append, List.nil_append]
  simp (disch := first | omega | (simp only [List.length_append, List.length_cons, List.length_nil]; omega)) only [c3r0, c3r1, c3r2, c3r3, c3r4, c3r5, c3r6, c3r7, c3r8, go_sem, ↓reduceIte, reduceCtorEq, Nat.reduceAdd, Nat.reduceSub, Nat.reducePow, Nat.reduceMul, Nat.reduceEqDiff, Nat.reduceLT, Nat.reduceLeDiff, Int.reduceToNat, Int.reduceLT, Int.reduceLE, Int.reduceEq, Int.reduceNeg, Int.reduceAdd, Int.reduceSub, Int.reduceMul]
  have E0 : Ext h (h ++ [.box (ofBytes a)]) := ⟨_, rfl⟩
  have bA := last_get h (.box (ofBytes a))
  generalize h ++ [.box (ofBytes a)] = h0 at *
  refine gfc_of (tnew_md h0 lD l (hs _) ha hlen) ?_
  rintro d h1 ⟨E1, hc⟩
  obtain ⟨f1, f2, hf⟩ : ∃ f1 f2, chkPs l = (f1, f2) := ⟨_, _, rfl⟩
  rw [hf] at hc
  have hchk : ∀ H : Heap, FC Try.prog 7 [lD] H fun d h' => d = .agg [.int .i64 f1, .int .i64 f2] ∧ h' = H := fun H => by
    have := check19_fc H lD l (hs _) ha hlen
    rw [hf] at this
    exact this
  rcases hc with ⟨hbad, rfl⟩ | ⟨hok, T, rfl, t⟩
  · have hne : ((f1 == 0) && (f2 == 0)) = false := by
      rw [Bool.eq_false_iff]
      intro hh
      simp only [Bool.and_eq_true, beq_iff_eq] at hh
      exact hbad (by rw [hh.1, hh.2])
    simp (disch := first | omega | (simp only [List.length_append, List.length_cons, List.length_nil]; omega)) only [fillD, splice0, go_sem, ↓reduceIte, reduceCtorEq, Nat.reduceAdd, Nat.reduceSub, Nat.reducePow, Nat.reduceMul, Nat.reduceEqDiff, Nat.reduceLT, Nat.reduceLeDiff, Int.reduceToNat, Int.reduceLT, Int.reduceLE, Int.reduceEq, Int.reduceNeg, Int.reduceAdd, Int.reduceSub, Int.reduceMul]
    refine gfc_of (hchk _) ?_
    rintro d h' ⟨rfl, e⟩
    rw [e]
    simp (disch := first | omega | (simp only [List.length_append, List.length_cons, List.length_nil]; omega)) only [fillD, splice0, hne, go_sem, ↓reduceIte, reduceCtorEq, Nat.reduceAdd, Nat.reduceSub, Nat.reducePow, Nat.reduceMul, Nat.reduceEqDiff, Nat.reduceLT, Nat.reduceLeDiff, Int.reduceToNat, Int.reduceLT, Int.reduceLE, Int.reduceEq, Int.reduceNeg, Int.reduceAdd, Int.reduceSub, Int.reduceMul]
    refine gfc_of (live19 _) ?_
    rintro d h' ⟨rfl, e⟩
    rw [e]
    simp (disch := first | omega | (simp only [List.length_append, List.length_cons, List.length_nil]; omega)) only [go_sem, ↓reduceIte, reduceCtorEq, Nat.reduceAdd, Nat.reduceSub, Nat.reducePow, Nat.reduceMul, Nat.reduceEqDiff, Nat.reduceLT, Nat.reduceLeDiff, Int.reduceToNat, Int.reduceLT, Int.reduceLE, Int.reduceEq, Int.reduceNeg, Int.reduceAdd, Int.reduceSub, Int.reduceMul]
    exact fin_ext ((E0.trans E1).trans ⟨_, rfl⟩) rfl ⟨rfl, rfl⟩
  · obtain ⟨rfl, rfl⟩ := Prod.mk.inj hok
    have bA' : ∀ L : Heap, (h1 ++ L)[h.length]? = some (.box (ofBytes a)) := fun L => (Ext.app E1 L).get bA
    obtain ⟨cT, bT⟩ := t.isbox
    have bT' : ∀ L : Heap, (h1 ++ L)[T]? = some (.box cT) := fun L => (Ext.app (Ext.refl h1) L).get bT
    simp (disch := first | omega | (simp only [List.length_append, List.length_cons, List.length_nil]; omega)) only [fillD, splice0, go_sem, ↓reduceIte, reduceCtorEq, Nat.reduceAdd, Nat.reduceSub, Nat.reducePow, Nat.reduceMul, Nat.reduceEqDiff, Nat.reduceLT, Nat.reduceLeDiff, Int.reduceToNat, Int.reduceLT, Int.reduceLE, Int.reduceEq, Int.reduceNeg, Int.reduceAdd, Int.reduceSub, Int.reduceMul]
    refine gfc_of (hchk _) ?_
    rintro d h' ⟨rfl, e⟩
    rw [e]
    simp (disch := first | omega | (simp only [List.length_append, List.length_cons, List.length_nil]; omega)) only [fillD, splice0, bT', go_sem, ↓reduceIte, reduceCtorEq, Nat.reduceAdd, Nat.reduceSub, Nat.reducePow, Nat.reduceMul, Nat.reduceEqDiff, Nat.reduceLT, Nat.reduceLeDiff, Int.reduceToNat, Int.reduceLT, Int.reduceLE, Int.reduceEq, Int.reduceNeg, Int.reduceAdd, Int.reduceSub, Int.reduceMul]
    have E2 : Ext h1 (h1 ++ [.box [.int .i64 0, .int .i64 0], .box [.int .i64 0, .int .i64 0]]) := ⟨_, rfl⟩
    have bA2 := bA' [.box [.int .i64 0, .int .i64 0], .box [.int .i64 0, .int .i64 0]]
    have t2 := t.ext E2
    generalize h1 ++ [.box [.int .i64 0, .int .i64 0], .box [.int .i64 0, .int .i64 0]] = h2 at *
    refine xfc_of (live19 _) ?_
    rintro d h' ⟨rfl, e⟩
    refine ⟨⟨[], by rw [e, List.append_nil]⟩, ?_⟩
    rw [e]
    have ln := (hs h2).lend
    have so := (hs h2).sort
    simp (disch := first | omega | (simp only [List.length_append, List.length_cons, List.length_nil]; omega)) only [ln, so, go_sem, ↓reduceIte, reduceCtorEq, Nat.reduceAdd, Nat.reduceSub, Nat.reducePow, Nat.reduceMul, Nat.reduceEqDiff, Nat.reduceLT, Nat.reduceLeDiff, Int.reduceToNat, Int.reduceLT, Int.reduceLE, Int.reduceEq, Int.reduceNeg, Int.reduceAdd, Int.reduceSub, Int.reduceMul]
    refine xfc_of (tlen_md _ l T t2) ?_
    rintro d h' ⟨rfl, e⟩
    refine ⟨⟨[], by rw [e, List.append_nil]⟩, ?_⟩
    rw [e]
    have l16 : 16 ≤ (ofBytes a).length := by omega
    simp (disch := first | omega | (simp only [List.length_append, List.length_cons, List.length_nil]; omega)) only [bA2, p7, l16, go_sem, ↓reduceIte, reduceCtorEq, Nat.reduceAdd, Nat.reduceSub, Nat.reducePow, Nat.reduceMul, Nat.reduceEqDiff, Nat.reduceLT, Nat.reduceLeDiff, Int.reduceToNat, Int.reduceLT, Int.reduceLE, Int.reduceEq, Int.reduceNeg, Int.reduceAdd, Int.reduceSub, Int.reduceMul]
    refine xfc_of (tfind_md _ l T t2 v a hal) ?_
    rintro d3 h3 ⟨E3, r3⟩
    refine ⟨E3, ?_⟩
    simp (disch := first | omega | (simp only [List.length_append, List.length_cons, List.length_nil]; omega)) only [go_sem, ↓reduceIte, reduceCtorEq, Nat.reduceAdd, Nat.reduceSub, Nat.reducePow, Nat.reduceMul, Nat.reduceEqDiff, Nat.reduceLT, Nat.reduceLeDiff, Int.reduceToNat, Int.reduceLT, Int.reduceLE, Int.reduceEq, Int.reduceNeg, Int.reduceAdd, Int.reduceSub, Int.reduceMul]
    refine xfc_of (find19_fc _ lD l (hs _) ha t2.len v a hal) ?_
    rintro d4 h4 ⟨E4, r4⟩
    refine ⟨E4, ?_⟩
    have hfl : (find19 l v a).length ≤ 1048576 := by rw [find19, putL_length]; omega
    simp (disch := first | omega | (simp only [List.length_append, List.length_cons, List.length_nil]; omega)) only [go_sem, ↓reduceIte, reduceCtorEq, Nat.reduceAdd, Nat.reduceSub, Nat.reducePow, Nat.reduceMul, Nat.reduceEqDiff, Nat.reduceLT, Nat.reduceLeDiff, Int.reduceToNat, Int.reduceLT, Int.reduceLE, Int.reduceEq, Int.reduceNeg, Int.reduceAdd, Int.reduceSub, Int.reduceMul]
    refine xfc_of (same_fc _ d3 d4 _ _ (r3.ext E4) r4 hfl hfl) ?_
    rintro d h' ⟨rfl, e⟩
    refine ⟨⟨[], by rw [e, List.append_nil]⟩, ?_⟩
    rw [e]
    have bA4 := (E3.trans E4).get bA2
    simp (disch := first | omega | (simp only [List.length_append, List.length_cons, List.length_nil]; omega)) only [bA4, p7, l16, go_sem, ↓reduceIte, reduceCtorEq, Nat.reduceAdd, Nat.reduceSub, Nat.reducePow, Nat.reduceMul, Nat.reduceEqDiff, Nat.reduceLT, Nat.reduceLeDiff, Int.reduceToNat, Int.reduceLT, Int.reduceLE, Int.reduceEq, Int.reduceNeg, Int.reduceAdd, Int.reduceSub, Int.reduceMul]
    refine xfc_of (tlong_md _ l T (t2.ext (E3.trans E4)) v a hal) ?_
    rintro d h' ⟨rfl, e⟩
    refine ⟨⟨[], by rw [e, List.append_nil]⟩, ?_⟩
    rw [e]
    simp (disch := first | omega | (simp only [List.length_append, List.length_cons, List.length_nil]; omega)) only [go_sem, ↓reduceIte, reduceCtorEq, Nat.reduceAdd, Nat.reduceSub, Nat.reducePow, Nat.reduceMul, Nat.reduceEqDiff, Nat.reduceLT, Nat.reduceLeDiff, Int.reduceToNat, Int.reduceLT, Int.reduceLE, Int.reduceEq, Int.reduceNeg, Int.reduceAdd, Int.reduceSub, Int.reduceMul]
    refine gfc_of (longest19_fc _ lD l (hs _) ha hlen v a hal) ?_
    rintro d h' ⟨rfl, e⟩
    rw [e]
    simp (disch := first | omega | (simp only [List.length_append, List.length_cons, List.length_nil]; omega)) only [go_sem, ↓reduceIte, reduceCtorEq, Nat.reduceAdd, Nat.reduceSub, Nat.reducePow, Nat.reduceMul, Nat.reduceEqDiff, Nat.reduceLT, Nat.reduceLeDiff, Int.reduceToNat, Int.reduceLT, Int.reduceLE, Int.reduceEq, Int.reduceNeg, Int.reduceAdd, Int.reduceSub, Int.reduceMul]
    exact fin_ext (E0.trans (E1.trans (E2.trans (E3.trans E4)))) rfl ⟨rfl, rfl⟩
theorem finds_law (h : Heap) (x0 : (Sh.sl (Sh.pair (.int .i64) (.pair (.arr 16 (.int .u8)) (.pair (.int .i64) .unit)))).T) (ok0 : (Sh.sl (Sh.pair (.int .i64) (.pair (.arr 16 (.int .u8)) (.pair (.int .i64) .unit)))).ok x0) (x1 : (Sh.int .i64).T) (ok1 : (Sh.int .i64).ok x1) (x2 : (Sh.arr 16 (.int .u8)).T) (ok2 : (Sh.arr 16 (.int .u8)).ok x2)
    (hv : (Sh.sl (Sh.pair (.int .i64) (.pair (.arr 16 (.int .u8)) (.pair (.int .i64) .unit)))).vol x0 + (Sh.int .i64).vol x1 + (Sh.arr 16 (.int .u8)).vol x2 ≤ 1048576)
    (D0 : D) (en0 : (Sh.sl (Sh.pair (.int .i64) (.pair (.arr 16 (.int .u8)) (.pair (.int .i64) .unit)))).EncV x0 D0) (D1 : D) (en1 : (Sh.int .i64).EncV x1 D1) (D2 : D) (en2 : (Sh.arr 16 (.int .u8)).EncV x2 D2) : FC Try.prog 3 [D0, D1, D2] h fun d h' => d = .bool true ∧ h' = h := by
  obtain ⟨l, ha, hl, hd⟩ := pfs_open ok0 en0
  obtain ⟨a, hal, rfl⟩ := arr_u8 ok2 en2
  simp only [Sh.EncV] at en1
  subst en1
  exact finds_fc h D0 l (pfs_sl ha hd) ha (by omega) _ a hal

theorem pfs_cons (p : Pf) (l : List Pf) : pfs (p :: l) = p.cells ++ pfs l := rfl
theorem pfs_take : ∀ (n : Nat) (l : List Pf), Addrs l → pfs (l.take n) = (pfs l).take (n * 18)
  | 0, l, _ => by simp [pfs]
  | n + 1, [], _ => by simp [pfs]
  | n + 1, p :: l, ha => by
    have hp := Pf.cells_length (ha p (by simp))
    have h9 : p.cells.take ((n + 1) * 18) = p.cells := List.take_of_length_le (by omega)
    rw [List.take_succ_cons, pfs_cons, pfs_cons, pfs_take n l (fun q hq => ha q (by simp [hq])), List.take_append, hp, h9, show (n + 1) * 18 - 18 = n * 18 by omega]
theorem nodes_law (h : Heap) (x0 : (Sh.sl (Sh.pair (.int .i64) (.pair (.arr 16 (.int .u8)) (.pair (.int .i64) .unit)))).T) (ok0 : (Sh.sl (Sh.pair (.int .i64) (.pair (.arr 16 (.int .u8)) (.pair (.int .i64) .unit)))).ok x0)
    (hv : (Sh.sl (Sh.pair (.int .i64) (.pair (.arr 16 (.int .u8)) (.pair (.int .i64) .unit)))).vol x0 ≤ 1048576)
    (D0 : D) (en0 : (Sh.sl (Sh.pair (.int .i64) (.pair (.arr 16 (.int .u8)) (.pair (.int .i64) .unit)))).EncV x0 D0) : FC Try.prog 4 [D0] h fun d h' => d = .bool true ∧ h' = h := by
  obtain ⟨l, ha, hl, hd⟩ := pfs_open ok0 en0
  have hs := pfs_sl ha hd
  refine FC.goes cf4 ?_; simp only [c4]; simp only [List.length_cons, List.length_nil, Nat.reduceAdd, Nat.reduceSub, List.replicate_succ, List.replicate_zero, List.cons_append, List.nil_append]
  by_cases h12 : 12 < l.length
  · have h12' : (12 : Int) < l.length := by omega
    have hd' : D0 = .sl (pfs l) l.length false := by
      rcases hd with ⟨_, rfl⟩ | h
      · simp at h12
      · exact h
    subst hd'
    have hpl : l.length * 18 ≤ (pfs l).length := by rw [pfs_length ha]; omega
    simp (disch := first | omega | (simp only [List.length_append, List.length_cons, List.length_nil]; omega)) only [c4r0, c4r1, c4r2, c4r3, c4r4, c4r5, c4r6, h12', hpl, go_sem, ↓reduceIte, reduceCtorEq, Nat.reduceAdd, Nat.reduceSub, Nat.reducePow, Nat.reduceMul, Nat.reduceEqDiff, Nat.reduceLT, Nat.reduceLeDiff, Int.reduceToNat, Int.reduceLT, Int.reduceLE, Int.reduceEq, Int.reduceNeg, Int.reduceAdd, Int.reduceSub, Int.reduceMul]
    have ha2 : Addrs (l.take 12) := fun p hp => ha p (List.mem_of_mem_take hp)
    have hl2 : (l.take 12).length = 12 := by rw [List.length_take]; omega
    have hs2 : ∀ h, SlOf h 18 (.sl (List.take 216 (pfs l)) 12 false) (pfs (l.take 12)) (l.take 12).length := fun h => by
      have := pfs_sl (d := .sl (pfs (l.take 12)) (l.take 12).length false) ha2 (.inr rfl) h
      rw [pfs_take 12 l ha, hl2] at this ⊢
      exact this
    refine gfc_of (tnew_md h _ (l.take 12) (hs2 h) ha2 (by omega)) ?_
    rintro d h1 ⟨E1, hc⟩
    obtain ⟨f1, f2, hf⟩ : ∃ f1 f2, chkPs ((l.take 12)) = (f1, f2) := ⟨_, _, rfl⟩
    rw [hf] at hc
    rcases hc with ⟨hbad, rfl⟩ | ⟨hok, T, rfl, t⟩
    · have hne : ((f1 == 0) && (f2 == 0)) = false := by
        rw [Bool.eq_false_iff]
        intro hh
        simp only [Bool.and_eq_true, beq_iff_eq] at hh
        exact hbad (by rw [hh.1, hh.2])
      simp (disch := first | omega | (simp only [List.length_append, List.length_cons, List.length_nil]; omega)) only [fillD, splice0, go_sem, ↓reduceIte, reduceCtorEq, Nat.reduceAdd, Nat.reduceSub, Nat.reducePow, Nat.reduceMul, Nat.reduceEqDiff, Nat.reduceLT, Nat.reduceLeDiff, Int.reduceToNat, Int.reduceLT, Int.reduceLE, Int.reduceEq, Int.reduceNeg, Int.reduceAdd, Int.reduceSub, Int.reduceMul]
      refine gfc_of (live19 _) ?_
      rintro d h' ⟨rfl, e⟩
      rw [e]
      simp (disch := first | omega | (simp only [List.length_append, List.length_cons, List.length_nil]; omega)) only [fillD, splice0, hne, go_sem, ↓reduceIte, reduceCtorEq, Nat.reduceAdd, Nat.reduceSub, Nat.reducePow, Nat.reduceMul, Nat.reduceEqDiff, Nat.reduceLT, Nat.reduceLeDiff, Int.reduceToNat, Int.reduceLT, Int.reduceLE, Int.reduceEq, Int.reduceNeg, Int.reduceAdd, Int.reduceSub, Int.reduceMul]
      exact fin_ext (E1.trans ⟨_, rfl⟩) rfl ⟨rfl, rfl⟩
    · obtain ⟨cT, bT⟩ := t.isbox
      have bT' : ∀ L : Heap, (h1 ++ L)[T]? = some (.box cT) := fun L => (Ext.app (Ext.refl h1) L).get bT
      simp (disch := first | omega | (simp only [List.length_append, List.length_cons, List.length_nil]; omega)) only [fillD, splice0, bT', go_sem, ↓reduceIte, reduceCtorEq, Nat.reduceAdd, Nat.reduceSub, Nat.reducePow, Nat.reduceMul, Nat.reduceEqDiff, Nat.reduceLT, Nat.reduceLeDiff, Int.reduceToNat, Int.reduceLT, Int.reduceLE, Int.reduceEq, Int.reduceNeg, Int.reduceAdd, Int.reduceSub, Int.reduceMul]
      have t2 := t.ext (⟨[.box [.int .i64 0, .int .i64 0]], rfl⟩ : Ext h1 (h1 ++ [.box [.int .i64 0, .int .i64 0]]))
      have E2 : Ext h (h1 ++ [.box [.int .i64 0, .int .i64 0]]) := Ext.app E1 _
      generalize h1 ++ [.box [.int .i64 0, .int .i64 0]] = h2 at *
      refine gfc_of (live19 _) ?_
      rintro d h' ⟨rfl, e⟩
      rw [e]
      simp (disch := first | omega | (simp only [List.length_append, List.length_cons, List.length_nil]; omega)) only [go_sem, ↓reduceIte, reduceCtorEq, Nat.reduceAdd, Nat.reduceSub, Nat.reducePow, Nat.reduceMul, Nat.reduceEqDiff, Nat.reduceLT, Nat.reduceLeDiff, Int.reduceToNat, Int.reduceLT, Int.reduceLE, Int.reduceEq, Int.reduceNeg, Int.reduceAdd, Int.reduceSub, Int.reduceMul]
      refine gfc_of (tnodes_md _ _ T t2) ?_
      rintro d h' ⟨rfl, e⟩
      rw [e]
      simp (disch := first | omega | (simp only [List.length_append, List.length_cons, List.length_nil]; omega)) only [go_sem, ↓reduceIte, reduceCtorEq, Nat.reduceAdd, Nat.reduceSub, Nat.reducePow, Nat.reduceMul, Nat.reduceEqDiff, Nat.reduceLT, Nat.reduceLeDiff, Int.reduceToNat, Int.reduceLT, Int.reduceLE, Int.reduceEq, Int.reduceNeg, Int.reduceAdd, Int.reduceSub, Int.reduceMul]
      refine gfc_of (nodes19_fc _ _ (l.take 12) (hs2 _) ha2 t2.len t2.good) ?_
      rintro d h' ⟨rfl, e⟩
      rw [e]
      simp (disch := first | omega | (simp only [List.length_append, List.length_cons, List.length_nil]; omega)) only [go_sem, ↓reduceIte, reduceCtorEq, Nat.reduceAdd, Nat.reduceSub, Nat.reducePow, Nat.reduceMul, Nat.reduceEqDiff, Nat.reduceLT, Nat.reduceLeDiff, Int.reduceToNat, Int.reduceLT, Int.reduceLE, Int.reduceEq, Int.reduceNeg, Int.reduceAdd, Int.reduceSub, Int.reduceMul]
      exact fin_ext E2 rfl ⟨rfl, rfl⟩
  · have h12' : ¬ (12 : Int) < l.length := by omega
    have ln := (hs h).lend
    have so := (hs h).sort
    simp (disch := first | omega | (simp only [List.length_append, List.length_cons, List.length_nil]; omega)) only [c4r0, c4r1, c4r2, c4r3, c4r4, c4r5, c4r6, ln, so, h12', go_sem, ↓reduceIte, reduceCtorEq, Nat.reduceAdd, Nat.reduceSub, Nat.reducePow, Nat.reduceMul, Nat.reduceEqDiff, Nat.reduceLT, Nat.reduceLeDiff, Int.reduceToNat, Int.reduceLT, Int.reduceLE, Int.reduceEq, Int.reduceNeg, Int.reduceAdd, Int.reduceSub, Int.reduceMul]
    refine gfc_of (tnew_md h _ l (hs h) ha (by omega)) ?_
    rintro d h1 ⟨E1, hc⟩
    obtain ⟨f1, f2, hf⟩ : ∃ f1 f2, chkPs (l) = (f1, f2) := ⟨_, _, rfl⟩
    rw [hf] at hc
    rcases hc with ⟨hbad, rfl⟩ | ⟨hok, T, rfl, t⟩
    · have hne : ((f1 == 0) && (f2 == 0)) = false := by
        rw [Bool.eq_false_iff]
        intro hh
        simp only [Bool.and_eq_true, beq_iff_eq] at hh
        exact hbad (by rw [hh.1, hh.2])
      simp (disch := first | omega | (simp only [List.length_append, List.length_cons, List.length_nil]; omega)) only [fillD, splice0, go_sem, ↓reduceIte, reduceCtorEq, Nat.reduceAdd, Nat.reduceSub, Nat.reducePow, Nat.reduceMul, Nat.reduceEqDiff, Nat.reduceLT, Nat.reduceLeDiff, Int.reduceToNat, Int.reduceLT, Int.reduceLE, Int.reduceEq, Int.reduceNeg, Int.reduceAdd, Int.reduceSub, Int.reduceMul]
      refine gfc_of (live19 _) ?_
      rintro d h' ⟨rfl, e⟩
      rw [e]
      simp (disch := first | omega | (simp only [List.length_append, List.length_cons, List.length_nil]; omega)) only [fillD, splice0, hne, go_sem, ↓reduceIte, reduceCtorEq, Nat.reduceAdd, Nat.reduceSub, Nat.reducePow, Nat.reduceMul, Nat.reduceEqDiff, Nat.reduceLT, Nat.reduceLeDiff, Int.reduceToNat, Int.reduceLT, Int.reduceLE, Int.reduceEq, Int.reduceNeg, Int.reduceAdd, Int.reduceSub, Int.reduceMul]
      exact fin_ext (E1.trans ⟨_, rfl⟩) rfl ⟨rfl, rfl⟩
    · obtain ⟨cT, bT⟩ := t.isbox
      have bT' : ∀ L : Heap, (h1 ++ L)[T]? = some (.box cT) := fun L => (Ext.app (Ext.refl h1) L).get bT
      simp (disch := first | omega | (simp only [List.length_append, List.length_cons, List.length_nil]; omega)) only [fillD, splice0, bT', go_sem, ↓reduceIte, reduceCtorEq, Nat.reduceAdd, Nat.reduceSub, Nat.reducePow, Nat.reduceMul, Nat.reduceEqDiff, Nat.reduceLT, Nat.reduceLeDiff, Int.reduceToNat, Int.reduceLT, Int.reduceLE, Int.reduceEq, Int.reduceNeg, Int.reduceAdd, Int.reduceSub, Int.reduceMul]
      have t2 := t.ext (⟨[.box [.int .i64 0, .int .i64 0]], rfl⟩ : Ext h1 (h1 ++ [.box [.int .i64 0, .int .i64 0]]))
      have E2 : Ext h (h1 ++ [.box [.int .i64 0, .int .i64 0]]) := Ext.app E1 _
      generalize h1 ++ [.box [.int .i64 0, .int .i64 0]] = h2 at *
      refine gfc_of (live19 _) ?_
      rintro d h' ⟨rfl, e⟩
      rw [e]
      simp (disch := first | omega | (simp only [List.length_append, List.length_cons, List.length_nil]; omega)) only [go_sem, ↓reduceIte, reduceCtorEq, Nat.reduceAdd, Nat.reduceSub, Nat.reducePow, Nat.reduceMul, Nat.reduceEqDiff, Nat.reduceLT, Nat.reduceLeDiff, Int.reduceToNat, Int.reduceLT, Int.reduceLE, Int.reduceEq, Int.reduceNeg, Int.reduceAdd, Int.reduceSub, Int.reduceMul]
      refine gfc_of (tnodes_md _ _ T t2) ?_
      rintro d h' ⟨rfl, e⟩
      rw [e]
      simp (disch := first | omega | (simp only [List.length_append, List.length_cons, List.length_nil]; omega)) only [go_sem, ↓reduceIte, reduceCtorEq, Nat.reduceAdd, Nat.reduceSub, Nat.reducePow, Nat.reduceMul, Nat.reduceEqDiff, Nat.reduceLT, Nat.reduceLeDiff, Int.reduceToNat, Int.reduceLT, Int.reduceLE, Int.reduceEq, Int.reduceNeg, Int.reduceAdd, Int.reduceSub, Int.reduceMul]
      refine gfc_of (nodes19_fc _ _ l (hs _) ha t2.len t2.good) ?_
      rintro d h' ⟨rfl, e⟩
      rw [e]
      simp (disch := first | omega | (simp only [List.length_append, List.length_cons, List.length_nil]; omega)) only [go_sem, ↓reduceIte, reduceCtorEq, Nat.reduceAdd, Nat.reduceSub, Nat.reducePow, Nat.reduceMul, Nat.reduceEqDiff, Nat.reduceLT, Nat.reduceLeDiff, Int.reduceToNat, Int.reduceLT, Int.reduceLE, Int.reduceEq, Int.reduceNeg, Int.reduceAdd, Int.reduceSub, Int.reduceMul]
      exact fin_ext E2 rfl ⟨rfl, rfl⟩
end Go.Proofs

