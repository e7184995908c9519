/-
  Own work. The walks of bitrow: inside, Has, Clone, Set, New.
-/
import Derived.Test.YtjciahobhaaheaaB
namespace Go.Proofs
open Go Go.Ytjciahobhaaheaa
set_option linter.unusedVariables false
set_option linter.unusedSimpArgs false
set_option maxRecDepth 10000

/-! ### weighbridge/bitrow.inside, params 2 -/
def c42r0 : List AStm := [.op (some 4) none (.mv (.c (.bool false)))]
def c42r1 : List AStm := [.op (some 5) none (.mv (.t 1)),
    .op (some 6) none (.bin .geq (.t 5) (.c (.int .i64 0))),
    .op (some 7) none (.mv (.t 6)),
    .op (some 8) (some (7, true)) (.mv (.t 1)),
    .op (some 9) (some (7, true)) (.bin .quo (.t 8) (.c (.int .i64 64))),
    .op (some 10) (some (7, true)) (.mv (.t 0)),
    .op (some 11) (some (7, true)) (.len false (.t 10)),
    .op (some 12) (some (7, true)) (.bin .lss (.t 9) (.t 11)),
    .op (some 13) none (.pick (.t 7) (.t 12) (.c (.bool false))),
    .op (some 4) none (.mv (.t 13))]
def c42 : CF := ⟨.seq (.reg c42r0) (.seq (.reg c42r1) (.ret)), [.tmp 4], 14⟩
theorem cf42 : cfun Try.prog 42 = some c42 := by kernel_rfl

/-! ### weighbridge/bitrow.Has, params 2 -/
def c18r0 : List AStm := [.op (some 4) none (.mv (.c (.bool false)))]
def c18r1 : List AStm := [.op (some 5) none (.mv (.t 0)),
    .op (some 6) none (.mv (.t 1)),
    .call (some 7) none (.c (.fn (.func 42) [] [])) [(.t 5), (.t 6)],
    .op (some 8) none (.mv (.t 7)),
    .op (some 9) (some (8, true)) (.mv (.t 0)),
    .op (some 10) (some (8, true)) (.mv (.t 1)),
    .op (some 11) (some (8, true)) (.bin .quo (.t 10) (.c (.int .i64 64))),
    .op (some 12) (some (8, true)) (.ixs 1 (.t 9) (.t 11)),
    .op (some 13) (some (8, true)) (.load none (.t 12)),
    .op (some 14) (some (8, true)) (.mv (.t 1)),
    .op (some 15) (some (8, true)) (.bin .rem (.t 14) (.c (.int .i64 64))),
    .op (some 16) (some (8, true)) (.conv .u64 (.t 15)),
    .op (some 17) (some (8, true)) (.bin .shr (.t 13) (.t 16)),
    .op (some 18) (some (8, true)) (.bin .and (.t 17) (.c (.int .u64 1))),
    .op (some 19) (some (8, true)) (.bin .neq (.t 18) (.c (.int .u64 0))),
    .op (some 20) none (.pick (.t 8) (.t 19) (.c (.bool false))),
    .op (some 4) none (.mv (.t 20))]
def c18 : CF := ⟨.seq (.reg c18r0) (.seq (.reg c18r1) (.ret)), [.tmp 4], 21⟩
theorem cf18 : cfun Try.prog 18 = some c18 := by kernel_rfl

/-! ### slices.Clone[[]uint64,uint64], params 1 -/
def c43r0 : List AStm := [.op (some 2) none (.mv (.c .nils))]
def c43r1 : List AStm := [.op (some 3) none (.mv (.t 0)),
    .op (some 4) none (.isnil false 2 (.t 3))]
def c43r2 : List AStm := [.op (some 2) none (.mv (.c .nils))]
def c43r3 : List AStm := [.op (some 5) none (.bslice 1 [] 0 []),
    .op (some 6) none (.mv (.t 0)),
    .op (some 7) none (.append false 1 8 (.t 5) (.t 6)),
    .op (some 2) none (.mv (.t 7))]
def c43 : CF := ⟨.seq (.reg c43r0) (.seq (.seq (.reg c43r1) (.cond (.t 4) (.seq (.reg c43r2) (.ret)) (.skip))) (.seq (.reg c43r3) (.ret))), [.tmp 2], 8⟩
theorem cf43 : cfun Try.prog 43 = some c43 := by kernel_rfl

/-! ### weighbridge/bitrow.Set, params 2 -/
def c20r0 : List AStm := [.op (some 4) none (.mv (.c .nils))]
def c20r1 : List AStm := [.op (some 6) none (.mv (.t 0)),
    .call (some 7) none (.c (.fn (.func 43) [] [])) [(.t 6)],
    .op (some 5) none (.mv (.t 7))]
def c20r2 : List AStm := [.op (some 8) none (.mv (.t 0)),
    .op (some 9) none (.mv (.t 1)),
    .call (some 10) none (.c (.fn (.func 42) [] [])) [(.t 8), (.t 9)]]
def c20r3 : List AStm := [.op (some 11) none (.mv (.t 5)),
    .op (some 12) none (.mv (.t 1)),
    .op (some 13) none (.bin .quo (.t 12) (.c (.int .i64 64))),
    .op (some 14) none (.ixs 1 (.t 11) (.t 13)),
    .op (some 15) none (.load none (.t 14)),
    .op (some 16) none (.mv (.t 1)),
    .op (some 17) none (.bin .rem (.t 16) (.c (.int .i64 64))),
    .op (some 18) none (.conv .u64 (.t 17)),
    .op (some 19) none (.bin .shl (.c (.int .u64 1)) (.t 18)),
    .op (some 20) none (.bin .or (.t 15) (.t 19)),
    .op (some 21) none (.ixs 1 (.t 11) (.t 13)),
    .op none none (.store 1 (.t 21) (.t 20))]
def c20r4 : List AStm := [.op (some 22) none (.mv (.t 5)),
    .op (some 4) none (.mv (.t 22))]
def c20 : CF := ⟨.seq (.reg c20r0) (.seq (.reg c20r1) (.seq (.seq (.reg c20r2) (.cond (.t 10) (.reg c20r3) (.skip))) (.seq (.reg c20r4) (.ret)))), [.tmp 4], 23⟩
theorem cf20 : cfun Try.prog 20 = some c20 := by kernel_rfl

/-! ### weighbridge/bitrow.New, params 1 -/
def c21r0 : List AStm := [.op (some 2) none (.mv (.c .nils))]
def c21r1 : List AStm := [.op (some 3) none (.mv (.t 0)),
    .op (some 4) none (.bin .lss (.t 3) (.c (.int .i64 0))),
    .op (some 5) none (.mv (.t 4)),
    .op (some 6) (some (5, false)) (.mv (.t 0)),
    .op (some 7) (some (5, false)) (.bin .gtr (.t 6) (.c (.int .i64 65536))),
    .op (some 8) none (.pick (.t 5) (.c (.bool true)) (.t 7))]
def c21r2 : List AStm := [.op (some 2) none (.mv (.c .nils))]
def c21r3 : List AStm := [.op (some 9) none (.mv (.t 0)),
    .op (some 10) none (.bin .add (.t 9) (.c (.int .i64 64))),
    .op (some 11) none (.bin .sub (.t 10) (.c (.int .i64 1))),
    .op (some 12) none (.bin .quo (.t 11) (.c (.int .i64 64))),
    .op (some 13) none (.mks 1 8 [(.int .u64 0)] (.t 12) (.t 12)),
    .op (some 2) none (.mv (.t 13))]
def c21 : CF := ⟨.seq (.reg c21r0) (.seq (.seq (.reg c21r1) (.cond (.t 8) (.seq (.reg c21r2) (.ret)) (.skip))) (.seq (.reg c21r3) (.ret))), [.tmp 2], 14⟩
theorem cf21 : cfun Try.prog 21 = some c21 := by kernel_rfl



/-- A slice that was made here, or nil. -/
def NewSl (h : Heap) (cs : List D) (n : Nat) (d : D) (h' : Heap) : Prop := (d = .nils ∧ cs = [] ∧ n = 0 ∧ h' = h) ∨ (d = .own h.length n ∧ h' = h ++ [.grow 1 cs n])
theorem NewSl.sl {h h' : Heap} {cs : List D} {n : Nat} {d : D} (hn : NewSl h cs n d h') (hl : cs.length = n) : SlOf h' 1 d cs n := by
  rcases hn with ⟨rfl, rfl, rfl, rfl⟩ | ⟨rfl, rfl⟩
  · exact SlOf.of rfl rfl
  · exact SlOf.of (by simp [slCells]) (by simp [hl])

def insR (n : Nat) (i : Int) : Bool := decide (0 ≤ i ∧ i.toNat / 64 < n)
theorem inside_fc (h : Heap) (row : D) (cs : List D) (n : Nat) (s : SlOf h 1 row cs n) (i : Int) (h0 : -9223372036854775808 ≤ i) (h1 : i < 9223372036854775808) :
    FC Try.prog 42 [row, .int .i64 i] h fun d h' => d = .bool (insR n i) ∧ h' = h := by
  refine FC.goes cf42 ?_; simp only [c42]; simp only [List.length_cons, List.length_nil, Nat.reduceAdd, Nat.reduceSub, List.replicate_succ, List.replicate_zero, List.cons_append, List.nil_append]
  by_cases hi : 0 ≤ i
  · obtain ⟨m, rfl⟩ := Int.eq_ofNat_of_zero_le hi
    have e1 : IntKind.i64.wrap ((m / 64 : Nat) : Int) = ((m / 64 : Nat) : Int) := w_i64 (by omega) (by omega)
    have e2 : ((m : Int)).toNat = m := rfl
    simp (disch := first | omega | (simp only [List.length_append, List.length_cons, List.length_nil]; omega)) only [c42r0, c42r1, hi, s.lend, s.sort, e1, go_sem, ↓reduceIte, reduceCtorEq, Nat.reduceAdd, Nat.reduceSub, Nat.reducePow, Nat.reduceMul, Nat.reduceEqDiff, Nat.reduceLT, Nat.reduceLeDiff, Int.reduceToNat, Int.reduceLT, Int.reduceLE, Int.reduceEq, Int.reduceNeg, Int.reduceAdd, Int.reduceSub, Int.reduceMul]
    exact FinOk.all ⟨congrArg D.bool (decide_eq_decide.2 (by omega)), rfl⟩
  · have hi' : ¬ (0 : Int) ≤ i := hi
    simp (disch := first | omega | (simp only [List.length_append, List.length_cons, List.length_nil]; omega)) only [c42r0, c42r1, hi', go_sem, ↓reduceIte, reduceCtorEq, Nat.reduceAdd, Nat.reduceSub, Nat.reducePow, Nat.reduceMul, Nat.reduceEqDiff, Nat.reduceLT, Nat.reduceLeDiff, Int.reduceToNat, Int.reduceLT, Int.reduceLE, Int.reduceEq, Int.reduceNeg, Int.reduceAdd, Int.reduceSub, Int.reduceMul]
    exact FinOk.all ⟨congrArg D.bool (by simp [insR, hi]), rfl⟩

/-- Is the bit set? -/
def hasR (ws : List Nat) (i : Int) : Bool := insR ws.length i && hasB ws i.toNat
theorem has_fc (h : Heap) (row : D) (ws : List Nat) (s : SlOf h 1 row (u64s ws) ws.length) (hw : ∀ w ∈ ws, w < 18446744073709551616) (i : Int) (h0 : -9223372036854775808 ≤ i) (h1 : i < 9223372036854775808) :
    FC Try.prog 18 [row, .int .i64 i] h fun d h' => d = .bool (hasR ws i) ∧ h' = h := by
  refine FC.goes cf18 ?_; simp only [c18]; simp only [List.length_cons, List.length_nil, Nat.reduceAdd, Nat.reduceSub, List.replicate_succ, List.replicate_zero, List.cons_append, List.nil_append]
  simp (disch := first | omega | (simp only [List.length_append, List.length_cons, List.length_nil]; omega)) only [c18r0, c18r1, go_sem, ↓reduceIte, reduceCtorEq, Nat.reduceAdd, Nat.reduceSub, Nat.reducePow, Nat.reduceMul, Nat.reduceEqDiff, Nat.reduceLT, Nat.reduceLeDiff, Int.reduceToNat, Int.reduceLT, Int.reduceLE, Int.reduceEq, Int.reduceNeg, Int.reduceAdd, Int.reduceSub, Int.reduceMul]
  refine gfc_of (inside_fc _ row _ _ s i h0 h1) ?_
  rintro d h' ⟨rfl, e⟩
  rw [e]
  cases hb : insR ws.length i with
  | false =>
    simp (disch := first | omega | (simp only [List.length_append, List.length_cons, List.length_nil]; omega)) only [go_sem, ↓reduceIte, reduceCtorEq, Nat.reduceAdd, Nat.reduceSub, Nat.reducePow, Nat.reduceMul, Nat.reduceEqDiff, Nat.reduceLT, Nat.reduceLeDiff, Int.reduceToNat, Int.reduceLT, Int.reduceLE, Int.reduceEq, Int.reduceNeg, Int.reduceAdd, Int.reduceSub, Int.reduceMul]
    exact FinOk.all ⟨congrArg D.bool (by simp [hasR, hb]), rfl⟩
  | true =>
    have hb' := hb
    simp only [insR, decide_eq_true_eq] at hb'
    obtain ⟨hi, hlt⟩ := hb'
    obtain ⟨m, rfl⟩ := Int.eq_ofNat_of_zero_le hi
    have e2 : ((m : Int)).toNat = m := rfl
    rw [e2] at hlt
    obtain ⟨p, cs, q1, q2, q3⟩ := s.elem (k := .i64) (i := ((m / 64 : Nat) : Int)) (by omega) (by omega)
    have q4 := q3 0 (by omega)
    rw [show ((((m / 64 : Nat) : Int)).toNat * 1 + 0) = m / 64 by omega, u64s_get hlt] at q4
    have hwk : ws.getD (m / 64) 0 < 18446744073709551616 := hw _ (by simp [List.getD_eq_getElem?_getD, List.getElem?_eq_getElem hlt])
    have e1 : IntKind.i64.wrap ((m / 64 : Nat) : Int) = ((m / 64 : Nat) : Int) := w_i64 (by omega) (by omega)
    have e3 : IntKind.u64.wrap ((m % 64 : Nat) : Int) = ((m % 64 : Nat) : Int) := w_u64 (by omega) (by omega)
    have hB : hasB ws m = decide ((ws.getD (m / 64) 0) / 2 ^ (m % 64) % 2 = 1) := rfl
    generalize hwd : ws.getD (m / 64) 0 = w at *
    have hv : w / 2 ^ (m % 64) < 18446744073709551616 := by
      have : w / 2 ^ (m % 64) ≤ w := Nat.div_le_self _ _
      omega
    have a1 : arith .and (.int .u64 ((w / 2 ^ (m % 64) : Nat) : Int)) (.int .u64 1) = some (.int .u64 ((w / 2 ^ (m % 64) % 2 : Nat) : Int)) := by
      have := and_u64 (x := w / 2 ^ (m % 64)) (y := 1) hv (by omega)
      rw [Nat.and_one_is_mod] at this
      exact this
    simp (disch := first | omega | (simp only [List.length_append, List.length_cons, List.length_nil]; omega)) only [q1, q2, q4, e1, e3, a1, e2, go_sem, ↓reduceIte, reduceCtorEq, Nat.reduceAdd, Nat.reduceSub, Nat.reducePow, Nat.reduceMul, Nat.reduceEqDiff, Nat.reduceLT, Nat.reduceLeDiff, Int.reduceToNat, Int.reduceLT, Int.reduceLE, Int.reduceEq, Int.reduceNeg, Int.reduceAdd, Int.reduceSub, Int.reduceMul]
    refine FinOk.all ⟨congrArg D.bool ?_, rfl⟩
    simp only [hasR, hb, Bool.true_and, e2, hB]
    by_cases hm : w / 2 ^ (m % 64) % 2 = 1
    · simp [hm]
    · have : w / 2 ^ (m % 64) % 2 = 0 := by omega
      simp [this]

theorem nil_or {h : Heap} {sz : Nat} {d : D} {cs : List D} {n : Nat} (s : SlOf h sz d cs n) : (d = .nils ∧ cs = [] ∧ n = 0) ∨ isNil h d = some false := by
  have h1 := s.sort
  have h2 := s.slen
  have h3 := s.cells
  cases d <;> first | exact .inr rfl | (simp [D.sortOf] at h1; done) | skip
  · simp only [slCells, Option.some.injEq, Prod.mk.injEq] at h3
    exact .inl ⟨rfl, h3.1.symm, h3.2.symm⟩
  all_goals
    right
    simp only [isNil, h2, Option.map_some]

theorem src_of {h : Heap} {sz : Nat} {d : D} {cs : List D} {n : Nat} (s : SlOf h sz d cs n) : srcCells h sz d = some (cs, n) := by
  have h1 := s.sort
  have h3 := s.cells
  cases d <;> first | exact h3 | (simp [D.sortOf] at h1; done)
theorem one_u64s (ws : List Nat) : (u64s ws).all D.one = true := by
  rw [List.all_eq_true]
  intro d hd
  obtain ⟨n, _, rfl⟩ := List.mem_map.1 hd
  rfl
theorem under_u64s (k : Nat) (ws : List Nat) : underL k (u64s ws) = true := by
  induction ws with
  | nil => rfl
  | cons a l ih => simpa [u64s, underL, underD] using ih

theorem clone_fc (h : Heap) (row : D) (cs : List D) (n : Nat) (s : SlOf h 1 row cs n) (hn : n ≤ 1048576) (hu : ∀ k, underL k cs = true) (ho : cs.all D.one = true) :
    FC Try.prog 43 [row] h (NewSl h cs n) := by
  refine FC.goes cf43 ?_; simp only [c43]; simp only [List.length_cons, List.length_nil, Nat.reduceAdd, Nat.reduceSub, List.replicate_succ, List.replicate_zero, List.cons_append, List.nil_append]
  rcases nil_or s with ⟨rfl, rfl, rfl⟩ | hnl
  · simp (disch := first | omega | (simp only [List.length_append, List.length_cons, List.length_nil]; omega)) only [c43r0, c43r1, c43r2, c43r3, go_sem, ↓reduceIte, reduceCtorEq, Nat.reduceAdd, Nat.reduceSub, Nat.reducePow, Nat.reduceMul, Nat.reduceEqDiff, Nat.reduceLT, Nat.reduceLeDiff, Int.reduceToNat, Int.reduceLT, Int.reduceLE, Int.reduceEq, Int.reduceNeg, Int.reduceAdd, Int.reduceSub, Int.reduceMul]
    exact FinOk.all (.inl ⟨rfl, rfl, rfl, rfl⟩)
  · have hl := src_of (s.low [.grow 1 [] 0])
    have e1 : n ≤ 1073741824 := by omega
    simp (disch := first | omega | (simp only [List.length_append, List.length_cons, List.length_nil]; omega)) only [c43r0, c43r1, c43r2, c43r3, hnl, hl, s.sort, e1, ho, go_sem, ↓reduceIte, reduceCtorEq, Nat.reduceAdd, Nat.reduceSub, Nat.reducePow, Nat.reduceMul, Nat.reduceEqDiff, Nat.reduceLT, Nat.reduceLeDiff, Int.reduceToNat, Int.reduceLT, Int.reduceLE, Int.reduceEq, Int.reduceNeg, Int.reduceAdd, Int.reduceSub, Int.reduceMul]
    exact FinOk.all (.inr ⟨rfl, rfl⟩)

/-- A row with a bit set. -/
def setR (ws : List Nat) (i : Int) : List Nat := if insR ws.length i then ws.set (i.toNat / 64) (ws.getD (i.toNat / 64) 0 ||| 2 ^ (i.toNat % 64)) else ws
theorem setR_length (ws : List Nat) (i : Int) : (setR ws i).length = ws.length := by unfold setR; split <;> simp
theorem u64s_set (ws : List Nat) (k n : Nat) : u64s (ws.set k n) = (u64s ws).set k (.int .u64 (n : Int)) := by simp [u64s, List.map_set]
theorem setR_lt {ws : List Nat} (hw : ∀ w ∈ ws, w < 18446744073709551616) (i : Int) : ∀ w ∈ setR ws i, w < 18446744073709551616 := by
  unfold setR
  split
  · rename_i hb
    simp only [insR, decide_eq_true_eq] at hb
    intro w hm
    rcases List.mem_or_eq_of_mem_set hm with hm | rfl
    · exact hw w hm
    · have h1 : ws.getD (i.toNat / 64) 0 < 2 ^ 64 := hw _ (by simp [List.getD_eq_getElem?_getD, List.getElem?_eq_getElem hb.2])
      have h2 : 2 ^ (i.toNat % 64) < 2 ^ 64 := Nat.pow_lt_pow_right (by omega) (by omega)
      exact Nat.or_lt_two_pow h1 h2
  · exact hw
theorem set_fc (h : Heap) (row : D) (ws : List Nat) (s : SlOf h 1 row (u64s ws) ws.length) (hlen : ws.length ≤ 1048576) (hw : ∀ w ∈ ws, w < 18446744073709551616) (i : Int) (h0 : -9223372036854775808 ≤ i) (h1 : i < 9223372036854775808) :
    FC Try.prog 20 [row, .int .i64 i] h (NewSl h (u64s (setR ws i)) ws.length) := by
  refine FC.goes cf20 ?_; simp only [c20]; simp only [List.length_cons, List.length_nil, Nat.reduceAdd, Nat.reduceSub, List.replicate_succ, List.replicate_zero, List.cons_append, List.nil_append]
  simp (disch := first | omega | (simp only [List.length_append, List.length_cons, List.length_nil]; omega)) only [c20r0, c20r1, c20r2, c20r3, c20r4, go_sem, ↓reduceIte, reduceCtorEq, Nat.reduceAdd, Nat.reduceSub, Nat.reducePow, Nat.reduceMul, Nat.reduceEqDiff, Nat.reduceLT, Nat.reduceLeDiff, Int.reduceToNat, Int.reduceLT, Int.reduceLE, Int.reduceEq, Int.reduceNeg, Int.reduceAdd, Int.reduceSub, Int.reduceMul]
  refine gfc_of (clone_fc _ row _ _ s hlen (fun k => under_u64s k ws) (one_u64s ws)) ?_
  intro d h' hn
  have s' : SlOf h' 1 row (u64s ws) ws.length := by
    rcases hn with ⟨-, -, -, rfl⟩ | ⟨-, rfl⟩
    · exact s
    · exact s.low _
  simp (disch := first | omega | (simp only [List.length_append, List.length_cons, List.length_nil]; omega)) only [go_sem, ↓reduceIte, reduceCtorEq, Nat.reduceAdd, Nat.reduceSub, Nat.reducePow, Nat.reduceMul, Nat.reduceEqDiff, Nat.reduceLT, Nat.reduceLeDiff, Int.reduceToNat, Int.reduceLT, Int.reduceLE, Int.reduceEq, Int.reduceNeg, Int.reduceAdd, Int.reduceSub, Int.reduceMul]
  refine gfc_of (inside_fc _ row _ _ s' i h0 h1) ?_
  rintro d2 h2 ⟨rfl, e⟩
  rw [e]
  cases hb : insR ws.length i with
  | false =>
    simp (disch := first | omega | (simp only [List.length_append, List.length_cons, List.length_nil]; omega)) only [go_sem, ↓reduceIte, reduceCtorEq, Nat.reduceAdd, Nat.reduceSub, Nat.reducePow, Nat.reduceMul, Nat.reduceEqDiff, Nat.reduceLT, Nat.reduceLeDiff, Int.reduceToNat, Int.reduceLT, Int.reduceLE, Int.reduceEq, Int.reduceNeg, Int.reduceAdd, Int.reduceSub, Int.reduceMul]
    have : setR ws i = ws := by simp [setR, hb]
    rw [this]
    exact FinOk.all hn
  | true =>
    have hb' := hb
    simp only [insR, decide_eq_true_eq] at hb'
    obtain ⟨hi, hlt⟩ := hb'
    obtain ⟨m, rfl⟩ := Int.eq_ofNat_of_zero_le hi
    have e2 : ((m : Int)).toNat = m := rfl
    rw [e2] at hlt
    rcases hn with ⟨rfl, hc, hn0, rfl⟩ | ⟨rfl, rfl⟩
    · omega
    have hwk : ws.getD (m / 64) 0 < 18446744073709551616 := hw _ (by simp [List.getD_eq_getElem?_getD, List.getElem?_eq_getElem hlt])
    have e1 : IntKind.i64.wrap ((m / 64 : Nat) : Int) = ((m / 64 : Nat) : Int) := w_i64 (by omega) (by omega)
    have e3 : IntKind.u64.wrap ((m % 64 : Nat) : Int) = ((m % 64 : Nat) : Int) := w_u64 (by omega) (by omega)
    have q4 : (List.drop (m / 64) (u64s ws))[0]? = some (.int .u64 ((ws.getD (m / 64) 0 : Nat) : Int)) := by
      rw [List.getElem?_drop, Nat.add_zero, u64s_get hlt]
    have hp : 2 ^ (m % 64) < 18446744073709551616 := Nat.lt_of_lt_of_eq (Nat.pow_lt_pow_right (n := 64) (by omega) (by omega)) (by rfl)
    have a1 : arith .shl (.int .u64 1) (.int .u64 ((m % 64 : Nat) : Int)) = some (.int .u64 ((2 ^ (m % 64) : Nat) : Int)) := by
      have := shl_u64 (x := 1) (k' := .u64) (b := ((m % 64 : Nat) : Int)) (by omega) (by omega)
      rw [Nat.one_mul, Int.toNat_natCast, w_u64 (Int.natCast_nonneg _) (Int.ofNat_lt.2 hp)] at this
      exact this
    have a2 := or_u64 (x := ws.getD (m / 64) 0) (y := 2 ^ (m % 64)) hwk hp
    have hset : u64s (setR ws (m : Int)) = (u64s ws).set (m / 64) (.int .u64 ((ws.getD (m / 64) 0 ||| 2 ^ (m % 64) : Nat) : Int)) := by
      simp only [setR, hb, if_true, e2]
      exact u64s_set _ _ _
    have hl := u64s_length ws
    simp (disch := first | omega | (simp only [List.length_append, List.length_cons, List.length_nil]; omega)) only [e1, e3, q4, e2, a1, a2, hl, go_sem, ↓reduceIte, reduceCtorEq, Nat.reduceAdd, Nat.reduceSub, Nat.reducePow, Nat.reduceMul, Nat.reduceEqDiff, Nat.reduceLT, Nat.reduceLeDiff, Int.reduceToNat, Int.reduceLT, Int.reduceLE, Int.reduceEq, Int.reduceNeg, Int.reduceAdd, Int.reduceSub, Int.reduceMul]
    rw [hset]
    exact FinOk.all (.inr ⟨rfl, rfl⟩)

/-- A row of so many bits. -/
def newR (n : Int) : List Nat := if n < 0 ∨ 65536 < n then [] else List.replicate ((n.toNat + 63) / 64) 0
theorem newR_lt (n : Int) : ∀ w ∈ newR n, w < 18446744073709551616 := by
  unfold newR
  split
  · simp
  · intro w hw; rw [(List.mem_replicate.1 hw).2]; omega
theorem newR_len (n : Int) : (newR n).length ≤ 1025 := by
  unfold newR
  split
  · simp
  · rw [List.length_replicate]; omega
theorem new_fc (h : Heap) (n : Int) (h0 : -9223372036854775808 ≤ n) (h1 : n < 9223372036854775808) :
    FC Try.prog 21 [.int .i64 n] h (NewSl h (u64s (newR n)) (newR n).length) := by
  refine FC.goes cf21 ?_; simp only [c21]; simp only [List.length_cons, List.length_nil, Nat.reduceAdd, Nat.reduceSub, List.replicate_succ, List.replicate_zero, List.cons_append, List.nil_append]
  by_cases hn : n < 0
  · have he : newR n = [] := by simp [newR, hn]
    simp (disch := first | omega | (simp only [List.length_append, List.length_cons, List.length_nil]; omega)) only [c21r0, c21r1, c21r2, c21r3, hn, go_sem, ↓reduceIte, reduceCtorEq, Nat.reduceAdd, Nat.reduceSub, Nat.reducePow, Nat.reduceMul, Nat.reduceEqDiff, Nat.reduceLT, Nat.reduceLeDiff, Int.reduceToNat, Int.reduceLT, Int.reduceLE, Int.reduceEq, Int.reduceNeg, Int.reduceAdd, Int.reduceSub, Int.reduceMul]
    rw [he]
    exact FinOk.all (.inl ⟨rfl, rfl, rfl, rfl⟩)
  · by_cases hg : 65536 < n
    · have he : newR n = [] := by simp [newR, hg]
      simp (disch := first | omega | (simp only [List.length_append, List.length_cons, List.length_nil]; omega)) only [c21r0, c21r1, c21r2, c21r3, hn, hg, go_sem, ↓reduceIte, reduceCtorEq, Nat.reduceAdd, Nat.reduceSub, Nat.reducePow, Nat.reduceMul, Nat.reduceEqDiff, Nat.reduceLT, Nat.reduceLeDiff, Int.reduceToNat, Int.reduceLT, Int.reduceLE, Int.reduceEq, Int.reduceNeg, Int.reduceAdd, Int.reduceSub, Int.reduceMul]
      rw [he]
      exact FinOk.all (.inl ⟨rfl, rfl, rfl, rfl⟩)
    · obtain ⟨k, rfl⟩ := Int.eq_ofNat_of_zero_le (by omega : 0 ≤ n)
      have he : newR (k : Int) = List.replicate ((k + 63) / 64) 0 := by
        unfold newR
        rw [if_neg (by omega)]; rfl
      have e1 : IntKind.i64.wrap ((k : Int) + 64) = ((k + 64 : Nat) : Int) := by rw [w_i64 (by omega) (by omega)]; omega
      have e2 : IntKind.i64.wrap (((k + 64 : Nat) : Int) - 1) = ((k + 63 : Nat) : Int) := by rw [w_i64 (by omega) (by omega)]; omega
      have e3 : IntKind.i64.wrap (((k + 63) / 64 : Nat) : Int) = (((k + 63) / 64 : Nat) : Int) := w_i64 (by omega) (by omega)
      have e4 : (k + 63) / 64 ≤ 1025 := by omega
      have e5 : (0 : Int) ≤ (((k + 63) / 64 : Nat) : Int) := by omega
      have e6 : (((k + 63) / 64 : Nat) : Int) ≤ 1073741824 := by omega
      simp (disch := first | omega | (simp only [List.length_append, List.length_cons, List.length_nil]; omega)) only [c21r0, c21r1, c21r2, c21r3, hn, hg, e1, e2, e3, e5, e6, e4, go_sem, ↓reduceIte, reduceCtorEq, Nat.reduceAdd, Nat.reduceSub, Nat.reducePow, Nat.reduceMul, Nat.reduceEqDiff, Nat.reduceLT, Nat.reduceLeDiff, Int.reduceToNat, Int.reduceLT, Int.reduceLE, Int.reduceEq, Int.reduceNeg, Int.reduceAdd, Int.reduceSub, Int.reduceMul]
      have e7 : (List.replicate ((k + 63) / 64) [D.int .u64 0]).flatten = u64s (List.replicate ((k + 63) / 64) 0) := by
        rw [u64s, List.map_replicate]
        generalize (k + 63) / 64 = q
        induction q with
        | zero => rfl
        | succ q ih => rw [List.replicate_succ, List.flatten_cons, ih, List.replicate_succ]; rfl
      rw [he, e7, List.length_replicate]
      exact FinOk.all (.inr ⟨rfl, rfl⟩)
end Go.Proofs
