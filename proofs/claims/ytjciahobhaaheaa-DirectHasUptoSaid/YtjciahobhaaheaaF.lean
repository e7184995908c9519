/-
  Own work. The walks of the document's rows: New, Set, List, First.
-/
import Derived.Test.YtjciahobhaaheaaE
namespace Go.Proofs
open Go Go.Ytjciahobhaaheaa
set_option linter.unusedVariables false
set_option linter.unusedSimpArgs false
set_option maxRecDepth 10000

/-! ### weighbridge/weighbridgeref18.New, params 1 -/
def c22r0 : List AStm := [.op (some 2) none (.mv (.c .nils))]
def c22r1 : List AStm := [.op (some 3) none (.mv (.c .nils))]
def c22r2 : List AStm := [.op (some 4) none (.mv (.c (.int .i64 0)))]
def c22r3 : List AStm := [.op (some 5) none (.mv (.t 4)),
    .op (some 6) none (.mv (.t 0)),
    .op (some 7) none (.bin .lss (.t 5) (.t 6)),
    .op (some 8) none (.mv (.t 7)),
    .op (some 9) (some (8, true)) (.mv (.t 0)),
    .op (some 10) (some (8, true)) (.bin .leq (.t 9) (.c (.int .i64 65536))),
    .op (some 11) none (.pick (.t 8) (.t 10) (.c (.bool false)))]
def c22r4 : List AStm := [.op (some 14) none (.mv (.t 3)),
    .op (some 15) none (.bslice 1 [(.int .u64 0)] 1 [(0, 1, (.c (.int .u64 0)))]),
    .op (some 16) none (.append false 1 8 (.t 14) (.t 15)),
    .op (some 3) none (.mv (.t 16))]
def c22r5 : List AStm := [.op (some 12) none (.mv (.t 4)),
    .op (some 13) none (.bin .add (.t 12) (.c (.int .i64 64))),
    .op (some 4) none (.mv (.t 13))]
def c22l6 : AC := .seq (.seq (.reg c22r3) (.cond (.t 11) (.skip) (.exit 0))) (.seq (.block 1 (.reg c22r4)) (.reg c22r5))
def c22r7 : List AStm := [.op (some 17) none (.mv (.t 3)),
    .op (some 2) none (.mv (.t 17))]
def c22 : CF := ⟨.seq (.reg c22r0) (.seq (.reg c22r1) (.seq (.seq (.reg c22r2) (.block 0 (.loop c22l6))) (.seq (.reg c22r7) (.ret)))), [.tmp 2], 18⟩
theorem cf22 : cfun Try.prog 22 = some c22 := by kernel_rfl

/-! ### weighbridge/weighbridgeref18.Set, params 2 -/
def c25r0 : List AStm := [.op (some 4) none (.mv (.c .nils))]
def c25r1 : List AStm := [.op (some 5) none (.mv (.c .nils))]
def c25r2 : List AStm := [.op (some 6) none (.mv (.c (.int .i64 0)))]
def c25r3 : List AStm := [.op (some 7) none (.mv (.t 6)),
    .op (some 8) none (.mv (.t 0)),
    .op (some 9) none (.len false (.t 8)),
    .op (some 10) none (.bin .lss (.t 7) (.t 9))]
def c25r4 : List AStm := [.op (some 13) none (.mv (.t 5)),
    .op (some 14) none (.mv (.t 0)),
    .op (some 15) none (.mv (.t 6)),
    .op (some 16) none (.ixs 1 (.t 14) (.t 15)),
    .op (some 17) none (.load none (.t 16)),
    .op (some 18) none (.bslice 1 [(.int .u64 0)] 1 [(0, 1, (.t 17))]),
    .op (some 19) none (.append false 1 8 (.t 13) (.t 18)),
    .op (some 5) none (.mv (.t 19))]
def c25r5 : List AStm := [.op (some 11) none (.mv (.t 6)),
    .op (some 12) none (.bin .add (.t 11) (.c (.int .i64 1))),
    .op (some 6) none (.mv (.t 12))]
def c25l6 : AC := .seq (.seq (.reg c25r3) (.cond (.t 10) (.skip) (.exit 0))) (.seq (.block 1 (.reg c25r4)) (.reg c25r5))
def c25r7 : List AStm := [.op (some 20) none (.mv (.t 1)),
    .op (some 21) none (.bin .geq (.t 20) (.c (.int .i64 0))),
    .op (some 22) none (.mv (.t 21)),
    .op (some 23) (some (22, true)) (.mv (.t 1)),
    .op (some 24) (some (22, true)) (.bin .quo (.t 23) (.c (.int .i64 64))),
    .op (some 25) (some (22, true)) (.mv (.t 0)),
    .op (some 26) (some (22, true)) (.len false (.t 25)),
    .op (some 27) (some (22, true)) (.bin .lss (.t 24) (.t 26)),
    .op (some 28) none (.pick (.t 22) (.t 27) (.c (.bool false)))]
def c25r8 : List AStm := [.op (some 29) none (.mv (.t 5)),
    .op (some 30) none (.mv (.t 1)),
    .op (some 31) none (.bin .quo (.t 30) (.c (.int .i64 64))),
    .op (some 32) none (.mv (.t 5)),
    .op (some 33) none (.mv (.t 1)),
    .op (some 34) none (.bin .quo (.t 33) (.c (.int .i64 64))),
    .op (some 35) none (.ixs 1 (.t 32) (.t 34)),
    .op (some 36) none (.load none (.t 35)),
    .op (some 37) none (.mv (.t 1)),
    .op (some 38) none (.bin .rem (.t 37) (.c (.int .i64 64))),
    .call (some 39) none (.c (.fn (.func 44) [] [])) [(.t 36), (.t 38), (.c (.int .i64 1)), (.c (.int .u64 1))],
    .op (some 40) none (.ixs 1 (.t 29) (.t 31)),
    .op none none (.store 1 (.t 40) (.t 39))]
def c25r9 : List AStm := [.op (some 41) none (.mv (.t 5)),
    .op (some 4) none (.mv (.t 41))]
def c25 : CF := ⟨.seq (.reg c25r0) (.seq (.reg c25r1) (.seq (.seq (.reg c25r2) (.block 0 (.loop c25l6))) (.seq (.seq (.reg c25r7) (.cond (.t 28) (.reg c25r8) (.skip))) (.seq (.reg c25r9) (.ret))))), [.tmp 4], 42⟩
theorem cf25 : cfun Try.prog 25 = some c25 := by kernel_rfl

/-! ### weighbridge/weighbridgeref18.List, params 1 -/
def c31r0 : List AStm := [.op (some 2) none (.mv (.c .nils))]
def c31r1 : List AStm := [.op (some 3) none (.mv (.c .nils))]
def c31r2 : List AStm := [.op (some 4) none (.mv (.c (.int .i64 0)))]
def c31r3 : List AStm := [.op (some 5) none (.mv (.t 4)),
    .op (some 6) none (.mv (.t 0)),
    .op (some 7) none (.len false (.t 6)),
    .op (some 8) none (.bin .mul (.c (.int .i64 64)) (.t 7)),
    .op (some 9) none (.bin .lss (.t 5) (.t 8))]
def c31r4 : List AStm := [.op (some 12) none (.mv (.t 0)),
    .op (some 13) none (.mv (.t 4)),
    .call (some 14) none (.c (.fn (.func 26) [] [])) [(.t 12), (.t 13)]]
def c31r5 : List AStm := [.op (some 15) none (.mv (.t 3)),
    .op (some 16) none (.mv (.t 4)),
    .op (some 17) none (.bslice 1 [(.int .i64 0)] 1 [(0, 1, (.t 16))]),
    .op (some 18) none (.append false 1 8 (.t 15) (.t 17)),
    .op (some 3) none (.mv (.t 18))]
def c31r6 : List AStm := [.op (some 10) none (.mv (.t 4)),
    .op (some 11) none (.bin .add (.t 10) (.c (.int .i64 1))),
    .op (some 4) none (.mv (.t 11))]
def c31l7 : AC := .seq (.seq (.reg c31r3) (.cond (.t 9) (.skip) (.exit 0))) (.seq (.block 1 (.seq (.reg c31r4) (.cond (.t 14) (.reg c31r5) (.skip)))) (.reg c31r6))
def c31r8 : List AStm := [.op (some 19) none (.mv (.t 3)),
    .op (some 2) none (.mv (.t 19))]
def c31 : CF := ⟨.seq (.reg c31r0) (.seq (.reg c31r1) (.seq (.seq (.reg c31r2) (.block 0 (.loop c31l7))) (.seq (.reg c31r8) (.ret)))), [.tmp 2], 20⟩
theorem cf31 : cfun Try.prog 31 = some c31 := by kernel_rfl

/-! ### weighbridge/weighbridgeref18.First, params 1 -/
def c28r0 : List AStm := [.op (some 2) none (.mv (.c (.int .i64 0)))]
def c28r1 : List AStm := [.op (some 4) none (.mv (.t 0)),
    .call (some 5) none (.c (.fn (.func 31) [] [])) [(.t 4)],
    .op (some 3) none (.mv (.t 5))]
def c28r2 : List AStm := [.op (some 6) none (.mv (.t 3)),
    .op (some 7) none (.len false (.t 6)),
    .op (some 8) none (.bin .eql (.t 7) (.c (.int .i64 0)))]
def c28r3 : List AStm := [.op (some 2) none (.mv (.c (.int .i64 (-1))))]
def c28r4 : List AStm := [.op (some 9) none (.mv (.t 3)),
    .op (some 10) none (.ixs 1 (.t 9) (.c (.int .i64 0))),
    .op (some 11) none (.load none (.t 10)),
    .op (some 2) none (.mv (.t 11))]
def c28 : CF := ⟨.seq (.reg c28r0) (.seq (.reg c28r1) (.seq (.seq (.reg c28r2) (.cond (.t 8) (.seq (.reg c28r3) (.ret)) (.skip))) (.seq (.reg c28r4) (.ret)))), [.tmp 2], 12⟩
theorem cf28 : cfun Try.prog 28 = some c28 := by kernel_rfl



/-- A slice that grows by appends of one, behind the heap h: nil at first. -/
def AppSt (h : Heap) (cs : List D) (n : Nat) (d : D) (H : Heap) : Prop :=
  (n = 0 ∧ cs = [] ∧ d = .nils ∧ H = []) ∨ (0 < n ∧ d = .own (h.length + 1) n ∧ ∃ b L, H = b :: .grow 1 cs n :: L)
theorem AppSt.app {h H : Heap} {cs : List D} {n : Nat} {d : D} (ha : AppSt h cs n d H) (x : D) (hn : n ≤ 1000000000) (bytes : Nat) (hb : bytes ≤ 65536) :
    ∃ H', appendD (h ++ (H ++ [.grow 1 [x] 1])) 1 bytes d [x] 1 = some (.own (h.length + 1) (n + 1), h ++ H') ∧ AppSt h (cs ++ [x]) (n + 1) (.own (h.length + 1) (n + 1)) H' := by
  rcases ha with ⟨rfl, rfl, rfl, rfl⟩ | ⟨h0, rfl, b, L, rfl⟩
  · refine ⟨[.grow 1 [x] 1, .grow 1 [x] 1], ?_, .inr ⟨by omega, rfl, _, _, rfl⟩⟩
    rw [ap_nils, if_neg (by omega), if_pos ⟨by omega, hb⟩]
    simp
  · refine ⟨b :: .grow 1 (cs ++ [x]) (n + 1) :: (L ++ [.grow 1 [x] 1]), ?_, .inr ⟨by omega, rfl, _, _, rfl⟩⟩
    have hg : (h ++ (b :: .grow 1 cs n :: L ++ [.grow 1 [x] 1]))[h.length + 1]? = some (.grow 1 cs n) := by
      rw [List.getElem?_append_right (by omega), show h.length + 1 - h.length = 1 by omega]; rfl
    rw [ap_own, hg]
    simp only [growW_grow, Option.bind_some]
    rw [if_pos ⟨trivial, trivial, by omega, hb⟩]
    rw [List.set_append_right _ _ (by omega), show h.length + 1 - h.length = 1 by omega]
    rfl
theorem AppSt.sl {h H : Heap} {cs : List D} {n : Nat} {d : D} (ha : AppSt h cs n d H) (hl : cs.length = n) : SlOf (h ++ H) 1 d cs n := by
  rcases ha with ⟨rfl, rfl, rfl, rfl⟩ | ⟨h0, rfl, b, L, rfl⟩
  · exact nils_of _ _
  · refine own_of (cs := cs) ?_ (by omega)
    rw [List.getElem?_append_right (by omega), show h.length + 1 - h.length = 1 by omega]; rfl
theorem AppSt.fin {h H : Heap} {cs : List D} {n : Nat} {d : D} (ha : AppSt h cs n d H) (hu : ∀ k, underL k cs = true) : FinOk h (h ++ H) [d] (NewSl h cs n) := by
  rcases ha with ⟨rfl, rfl, rfl, rfl⟩ | ⟨h0, rfl, b, L, rfl⟩
  · exact FinOk.drop (.inl rfl) rfl (.inl ⟨rfl, rfl, rfl, rfl⟩)
  · exact FinOk.one (pre := []) (post := []) (sz := 1) (cs := cs) (n' := n) (.inl rfl) (by omega) (by rw [Nat.add_sub_cancel_left]; rfl) (hu _) rfl rfl (.inr ⟨rfl, rfl⟩)

theorem newRef_fc (h : Heap) (n : Int) (h0 : -9223372036854775808 ≤ n) (h1 : n < 9223372036854775808) :
    FC Try.prog 22 [.int .i64 n] h (NewSl h (u64s (newR n)) (newR n).length) := by
  refine FC.goes cf22 ?_; simp only [c22]; simp only [List.length_cons, List.length_nil, Nat.reduceAdd, Nat.reduceSub, List.replicate_succ, List.replicate_zero, List.cons_append, List.nil_append]
  simp (disch := first | omega | (simp only [List.length_append, List.length_cons, List.length_nil]; omega)) only [c22r0, c22r1, c22r2, c22r3, c22r4, c22r5, c22l6, c22r7, go_sem, ↓reduceIte, reduceCtorEq, Nat.reduceAdd, Nat.reduceSub, Nat.reducePow, Nat.reduceMul, Nat.reduceEqDiff, Nat.reduceLT, Nat.reduceLeDiff, Int.reduceToNat, Int.reduceLT, Int.reduceLE, Int.reduceEq, Int.reduceNeg, Int.reduceAdd, Int.reduceSub, Int.reduceMul]
  by_cases hc : n < 0 ∨ 65536 < n
  · refine loop_to 0 (fun k st => ∃ (j : Nat → D), st = ⟨(.int .i64 n :: j 1 :: j 2 :: .nils :: .int .i64 0 :: j 5 :: j 6 :: j 7 :: j 8 :: j 9 :: j 10 :: j 11 :: j 12 :: j 13 :: j 14 :: j 15 :: j 16 :: j 17 :: []), h⟩) (junk rfl) ?_
    rintro k st hk ⟨j, rfl⟩
    have he : newR n = [] := by unfold newR; rw [if_pos hc]
    rw [he]
    by_cases hn : (0 : Int) < n
    · have hn2 : ¬ (n ≤ 65536) := by omega
      simp (disch := first | omega | (simp only [List.length_append, List.length_cons, List.length_nil]; omega)) only [c22r0, c22r1, c22r2, c22r3, c22r4, c22r5, c22l6, c22r7, hn, hn2, go_sem, ↓reduceIte, reduceCtorEq, Nat.reduceAdd, Nat.reduceSub, Nat.reducePow, Nat.reduceMul, Nat.reduceEqDiff, Nat.reduceLT, Nat.reduceLeDiff, Int.reduceToNat, Int.reduceLT, Int.reduceLE, Int.reduceEq, Int.reduceNeg, Int.reduceAdd, Int.reduceSub, Int.reduceMul]
      exact FinOk.all (.inl ⟨rfl, rfl, rfl, rfl⟩)
    · simp (disch := first | omega | (simp only [List.length_append, List.length_cons, List.length_nil]; omega)) only [c22r0, c22r1, c22r2, c22r3, c22r4, c22r5, c22l6, c22r7, hn, go_sem, ↓reduceIte, reduceCtorEq, Nat.reduceAdd, Nat.reduceSub, Nat.reducePow, Nat.reduceMul, Nat.reduceEqDiff, Nat.reduceLT, Nat.reduceLeDiff, Int.reduceToNat, Int.reduceLT, Int.reduceLE, Int.reduceEq, Int.reduceNeg, Int.reduceAdd, Int.reduceSub, Int.reduceMul]
      exact FinOk.all (.inl ⟨rfl, rfl, rfl, rfl⟩)
  · obtain ⟨m, rfl⟩ := Int.eq_ofNat_of_zero_le (by omega : 0 ≤ n)
    have he : newR (m : Int) = List.replicate ((m + 63) / 64) 0 := by
      unfold newR
      rw [if_neg hc]; rfl
    have hn2 : ((m : Int) ≤ 65536) := by omega
    refine loop_to ((m + 63) / 64) (fun k st => ∃ (d : D) (H : Heap), AppSt h (u64s (List.replicate k 0)) k d H ∧ ∃ (j : Nat → D), st = ⟨(.int .i64 (m : Int) :: j 1 :: j 2 :: d :: .int .i64 ((64 * k : Nat) : Int) :: j 5 :: j 6 :: j 7 :: j 8 :: j 9 :: j 10 :: j 11 :: j 12 :: j 13 :: j 14 :: j 15 :: j 16 :: j 17 :: []), h ++ H⟩) ⟨.nils, [], .inl ⟨rfl, rfl, rfl, rfl⟩, by rw [List.append_nil]; exact junk rfl⟩ ?_
    rintro k st hk ⟨d, H, ha, j, rfl⟩
    by_cases hkm : 64 * k < m
    · have hkm' : ((64 * k : Nat) : Int) < m := by omega
      obtain ⟨H', q1, q2⟩ := ha.app (.int .u64 0) (by omega) 8 (by omega)
      have e1 : IntKind.i64.wrap (((64 * k : Nat) : Int) + 64) = ((64 * (k + 1) : Nat) : Int) := by rw [w_i64 (by omega) (by omega)]; omega
      simp (disch := first | omega | (simp only [List.length_append, List.length_cons, List.length_nil]; omega)) only [c22r0, c22r1, c22r2, c22r3, c22r4, c22r5, c22l6, c22r7, hkm', hn2, List.append_assoc, q1, e1, go_sem, ↓reduceIte, reduceCtorEq, Nat.reduceAdd, Nat.reduceSub, Nat.reducePow, Nat.reduceMul, Nat.reduceEqDiff, Nat.reduceLT, Nat.reduceLeDiff, Int.reduceToNat, Int.reduceLT, Int.reduceLE, Int.reduceEq, Int.reduceNeg, Int.reduceAdd, Int.reduceSub, Int.reduceMul]
      refine ⟨by omega, _, H', ?_, junk rfl⟩
      rw [show u64s (List.replicate (k + 1) 0) = u64s (List.replicate k 0) ++ [.int .u64 0] by rw [List.replicate_succ', u64s, List.map_append]; rfl]
      exact q2
    · have hkm' : ¬ ((64 * k : Nat) : Int) < m := by omega
      have : k = (m + 63) / 64 := by omega
      simp (disch := first | omega | (simp only [List.length_append, List.length_cons, List.length_nil]; omega)) only [c22r0, c22r1, c22r2, c22r3, c22r4, c22r5, c22l6, c22r7, hkm', hn2, go_sem, ↓reduceIte, reduceCtorEq, Nat.reduceAdd, Nat.reduceSub, Nat.reducePow, Nat.reduceMul, Nat.reduceEqDiff, Nat.reduceLT, Nat.reduceLeDiff, Int.reduceToNat, Int.reduceLT, Int.reduceLE, Int.reduceEq, Int.reduceNeg, Int.reduceAdd, Int.reduceSub, Int.reduceMul]
      rw [he, List.length_replicate, ← this]
      exact ha.fin fun k => under_u64s k _

theorem u64s_take (ws : List Nat) {k : Nat} (h : k < ws.length) : u64s (ws.take (k + 1)) = u64s (ws.take k) ++ [.int .u64 ((ws.getD k 0 : Nat) : Int)] := by
  rw [List.take_add_one, u64s, List.map_append, List.getElem?_eq_getElem h]
  simp [u64s, List.getD_eq_getElem?_getD, List.getElem?_eq_getElem h]

theorem setRef_fc (h : Heap) (row : D) (ws : List Nat) (s : SlOf h 1 row (u64s ws) ws.length) (hlen : ws.length ≤ 1048576) (hw : ∀ w ∈ ws, w < 18446744073709551616) (i : Int) (h0 : -9223372036854775808 ≤ i) (h1 : i < 9223372036854775808) :
    FC Try.prog 25 [row, .int .i64 i] h (NewSl h (u64s (setR ws i)) ws.length) := by
  refine FC.goes cf25 ?_; simp only [c25]; simp only [List.length_cons, List.length_nil, Nat.reduceAdd, Nat.reduceSub, List.replicate_succ, List.replicate_zero, List.cons_append, List.nil_append]
  simp (disch := first | omega | (simp only [List.length_append, List.length_cons, List.length_nil]; omega)) only [c25r0, c25r1, c25r2, c25r3, c25r4, c25r5, c25l6, c25r7, c25r8, c25r9, go_sem, ↓reduceIte, reduceCtorEq, Nat.reduceAdd, Nat.reduceSub, Nat.reducePow, Nat.reduceMul, Nat.reduceEqDiff, Nat.reduceLT, Nat.reduceLeDiff, Int.reduceToNat, Int.reduceLT, Int.reduceLE, Int.reduceEq, Int.reduceNeg, Int.reduceAdd, Int.reduceSub, Int.reduceMul]
  refine loop_to ws.length (fun k st => ∃ (d : D) (H : Heap), AppSt h (u64s (ws.take k)) k d H ∧ ∃ (j : Nat → D), st = ⟨(row :: .int .i64 i :: j 2 :: j 3 :: j 4 :: d :: .int .i64 (k : Int) :: j 7 :: j 8 :: j 9 :: j 10 :: j 11 :: j 12 :: j 13 :: j 14 :: j 15 :: j 16 :: j 17 :: j 18 :: j 19 :: j 20 :: j 21 :: j 22 :: j 23 :: j 24 :: j 25 :: j 26 :: j 27 :: j 28 :: j 29 :: j 30 :: j 31 :: j 32 :: j 33 :: j 34 :: j 35 :: j 36 :: j 37 :: j 38 :: j 39 :: j 40 :: j 41 :: []), h ++ H⟩) ⟨.nils, [], .inl ⟨rfl, rfl, rfl, rfl⟩, by rw [List.append_nil]; exact junk rfl⟩ ?_
  rintro k st hk ⟨d, H, ha, j, rfl⟩
  have s' := s.low H
  by_cases hkn : k < ws.length
  · have hkn' : (k : Int) < ws.length := by omega
    obtain ⟨p, cs, e1, e2, e3⟩ := s'.elem (k := .i64) (i := (k : Int)) (by omega) (by omega)
    have e4 := e3 0 (by omega)
    rw [show ((k : Int).toNat * 1 + 0) = k by omega, u64s_get hkn] at e4
    have ht := u64s_take ws hkn
    obtain ⟨H', q1, q2⟩ := ha.app (.int .u64 ((ws.getD k 0 : Nat) : Int)) (by omega) 8 (by omega)
    rw [← ht] at q2
    generalize ws.getD k 0 = w at *
    have e5 : IntKind.i64.wrap ((k : Int) + 1) = ((k + 1 : Nat) : Int) := by rw [w_i64 (by omega) (by omega)]; omega
    simp (disch := first | omega | (simp only [List.length_append, List.length_cons, List.length_nil]; omega)) only [c25r0, c25r1, c25r2, c25r3, c25r4, c25r5, c25l6, c25r7, c25r8, c25r9, s'.lend, s'.sort, hkn', e1, e2, e4, List.append_assoc, q1, e5, go_sem, ↓reduceIte, reduceCtorEq, Nat.reduceAdd, Nat.reduceSub, Nat.reducePow, Nat.reduceMul, Nat.reduceEqDiff, Nat.reduceLT, Nat.reduceLeDiff, Int.reduceToNat, Int.reduceLT, Int.reduceLE, Int.reduceEq, Int.reduceNeg, Int.reduceAdd, Int.reduceSub, Int.reduceMul]
    exact ⟨hkn, _, H', q2, junk rfl⟩
  · have hkn' : ¬ (k : Int) < ws.length := by omega
    have : k = ws.length := by omega
    subst this
    rw [List.take_length] at ha
    by_cases hi : 0 ≤ i
    · obtain ⟨m, rfl⟩ := Int.eq_ofNat_of_zero_le hi
      have e1 : IntKind.i64.wrap ((m / 64 : Nat) : Int) = ((m / 64 : Nat) : Int) := w_i64 (by omega) (by omega)
      have e3 : IntKind.i64.wrap ((m % 64 : Nat) : Int) = ((m % 64 : Nat) : Int) := w_i64 (by omega) (by omega)
      have e2 : ((m : Int)).toNat = m := rfl
      by_cases hlt : m / 64 < ws.length
      · have hlt' : ((m / 64 : Nat) : Int) < ws.length := by omega
        rcases ha with ⟨hn0, _⟩ | ⟨hn0, rfl, b, L, rfl⟩
        · omega
        have hb : insR ws.length (m : Int) = true := by simp [insR, e2, hlt]
        have q4 : (List.drop (m / 64) (u64s ws))[0]? = some (.int .u64 ((ws.getD (m / 64) 0 : Nat) : Int)) := by
          rw [List.getElem?_drop, Nat.add_zero, u64s_get hlt]
        have hwk : ws.getD (m / 64) 0 < 18446744073709551616 := hw _ (by simp [List.getD_eq_getElem?_getD, List.getElem?_eq_getElem hlt])
        have hl := u64s_length ws
        simp (disch := first | omega | (simp only [List.length_append, List.length_cons, List.length_nil]; omega)) only [c25r0, c25r1, c25r2, c25r3, c25r4, c25r5, c25l6, c25r7, c25r8, c25r9, s'.lend, s'.sort, hkn', hi, e1, e3, hlt', hl, q4, go_sem, ↓reduceIte, reduceCtorEq, Nat.reduceAdd, Nat.reduceSub, Nat.reducePow, Nat.reduceMul, Nat.reduceEqDiff, Nat.reduceLT, Nat.reduceLeDiff, Int.reduceToNat, Int.reduceLT, Int.reduceLE, Int.reduceEq, Int.reduceNeg, Int.reduceAdd, Int.reduceSub, Int.reduceMul]
        refine gfc_of (setBits_fc _ _ (m % 64) hwk (by omega)) ?_
        rintro d h2 ⟨rfl, e⟩
        rw [e]
        simp (disch := first | omega | (simp only [List.length_append, List.length_cons, List.length_nil]; omega)) only [hl, go_sem, ↓reduceIte, reduceCtorEq, Nat.reduceAdd, Nat.reduceSub, Nat.reducePow, Nat.reduceMul, Nat.reduceEqDiff, Nat.reduceLT, Nat.reduceLeDiff, Int.reduceToNat, Int.reduceLT, Int.reduceLE, Int.reduceEq, Int.reduceNeg, Int.reduceAdd, Int.reduceSub, Int.reduceMul]
        have hset : u64s (setR ws (m : Int)) = (u64s ws).set (m / 64) (.int .u64 ((ws.getD (m / 64) 0 ||| 2 ^ (m % 64) : Nat) : Int)) := by
          simp only [setR, hb, if_true, e2]
          exact u64s_set _ _ _
        rw [← hset]
        exact FinOk.one (pre := []) (post := []) (sz := 1) (cs := u64s (setR ws (m : Int))) (n' := ws.length) (.inl rfl) (by omega) (by rw [Nat.add_sub_cancel_left]; rfl) (under_u64s _ _) rfl rfl (.inr ⟨rfl, rfl⟩)
      · have hlt' : ¬ ((m / 64 : Nat) : Int) < ws.length := by omega
        simp (disch := first | omega | (simp only [List.length_append, List.length_cons, List.length_nil]; omega)) only [c25r0, c25r1, c25r2, c25r3, c25r4, c25r5, c25l6, c25r7, c25r8, c25r9, s'.lend, s'.sort, hkn', hi, e1, hlt', go_sem, ↓reduceIte, reduceCtorEq, Nat.reduceAdd, Nat.reduceSub, Nat.reducePow, Nat.reduceMul, Nat.reduceEqDiff, Nat.reduceLT, Nat.reduceLeDiff, Int.reduceToNat, Int.reduceLT, Int.reduceLE, Int.reduceEq, Int.reduceNeg, Int.reduceAdd, Int.reduceSub, Int.reduceMul]
        have : setR ws (m : Int) = ws := by simp [setR, insR, e2, hlt]
        rw [this]
        exact ha.fin fun k => under_u64s k _
    · simp (disch := first | omega | (simp only [List.length_append, List.length_cons, List.length_nil]; omega)) only [c25r0, c25r1, c25r2, c25r3, c25r4, c25r5, c25l6, c25r7, c25r8, c25r9, s'.lend, s'.sort, hkn', hi, go_sem, ↓reduceIte, reduceCtorEq, Nat.reduceAdd, Nat.reduceSub, Nat.reducePow, Nat.reduceMul, Nat.reduceEqDiff, Nat.reduceLT, Nat.reduceLeDiff, Int.reduceToNat, Int.reduceLT, Int.reduceLE, Int.reduceEq, Int.reduceNeg, Int.reduceAdd, Int.reduceSub, Int.reduceMul]
      have : setR ws i = ws := by simp [setR, insR, hi]
      rw [this]
      exact ha.fin fun k => under_u64s k _

theorem onesTo_le (ws : List Nat) (n : Nat) : (onesTo ws n).length ≤ n := by
  have := List.length_filter_le (hasB ws) (List.range n)
  simpa [onesTo] using this
theorem listRef_fc (h : Heap) (row : D) (ws : List Nat) (s : SlOf h 1 row (u64s ws) ws.length) (hlen : ws.length ≤ 1048576) (hw : ∀ w ∈ ws, w < 18446744073709551616) :
    FC Try.prog 31 [row] h (NewSl h (i64s (onesL ws)) (onesL ws).length) := by
  refine FC.goes cf31 ?_; simp only [c31]; simp only [List.length_cons, List.length_nil, Nat.reduceAdd, Nat.reduceSub, List.replicate_succ, List.replicate_zero, List.cons_append, List.nil_append]
  simp (disch := first | omega | (simp only [List.length_append, List.length_cons, List.length_nil]; omega)) only [c31r0, c31r1, c31r2, c31r3, c31r4, c31r5, c31r6, c31l7, c31r8, go_sem, ↓reduceIte, reduceCtorEq, Nat.reduceAdd, Nat.reduceSub, Nat.reducePow, Nat.reduceMul, Nat.reduceEqDiff, Nat.reduceLT, Nat.reduceLeDiff, Int.reduceToNat, Int.reduceLT, Int.reduceLE, Int.reduceEq, Int.reduceNeg, Int.reduceAdd, Int.reduceSub, Int.reduceMul]
  refine loop_to (64 * ws.length) (fun k st => ∃ (d : D) (H : Heap), AppSt h (i64s (onesTo ws k)) (onesTo ws k).length d H ∧ ∃ (j : Nat → D), st = ⟨(row :: j 1 :: j 2 :: d :: .int .i64 (k : Int) :: j 5 :: j 6 :: j 7 :: j 8 :: j 9 :: j 10 :: j 11 :: j 12 :: j 13 :: j 14 :: j 15 :: j 16 :: j 17 :: j 18 :: j 19 :: []), h ++ H⟩) ⟨.nils, [], .inl ⟨rfl, rfl, rfl, rfl⟩, by rw [List.append_nil]; exact junk rfl⟩ ?_
  rintro k st hk ⟨d, H, ha, j, rfl⟩
  have s' := s.low H
  have e0 : IntKind.i64.wrap (64 * (ws.length : Int)) = ((64 * ws.length : Nat) : Int) := by rw [w_i64 (by omega) (by omega)]; omega
  by_cases hkn : k < 64 * ws.length
  · have hkn' : (k : Int) < ((64 * ws.length : Nat) : Int) := by omega
    simp (disch := first | omega | (simp only [List.length_append, List.length_cons, List.length_nil]; omega)) only [c31r0, c31r1, c31r2, c31r3, c31r4, c31r5, c31r6, c31l7, c31r8, s'.lend, s'.sort, e0, hkn', go_sem, ↓reduceIte, reduceCtorEq, Nat.reduceAdd, Nat.reduceSub, Nat.reducePow, Nat.reduceMul, Nat.reduceEqDiff, Nat.reduceLT, Nat.reduceLeDiff, Int.reduceToNat, Int.reduceLT, Int.reduceLE, Int.reduceEq, Int.reduceNeg, Int.reduceAdd, Int.reduceSub, Int.reduceMul]
    refine gfc_of (hasRef_fc _ row ws s' hlen hw k (by omega) (by omega)) ?_
    rintro d2 h2 ⟨rfl, e⟩
    rw [e]
    have e5 : IntKind.i64.wrap ((k : Int) + 1) = ((k + 1 : Nat) : Int) := by rw [w_i64 (by omega) (by omega)]; omega
    have hb : hasR ws (k : Int) = hasB ws k := by
      have e2 : ((k : Int)).toNat = k := rfl
      have : insR ws.length (k : Int) = true := by simp [insR, e2]; omega
      rw [hasR, this, e2, Bool.true_and]
    rw [hb]
    have hsu := onesTo_succ ws k
    cases hbk : hasB ws k with
    | false =>
      simp (disch := first | omega | (simp only [List.length_append, List.length_cons, List.length_nil]; omega)) only [e5, go_sem, ↓reduceIte, reduceCtorEq, Nat.reduceAdd, Nat.reduceSub, Nat.reducePow, Nat.reduceMul, Nat.reduceEqDiff, Nat.reduceLT, Nat.reduceLeDiff, Int.reduceToNat, Int.reduceLT, Int.reduceLE, Int.reduceEq, Int.reduceNeg, Int.reduceAdd, Int.reduceSub, Int.reduceMul]
      rw [hbk] at hsu
      simp only [Bool.false_eq_true, if_false, List.append_nil] at hsu
      rw [← hsu] at ha
      exact ⟨hkn, _, H, ha, junk rfl⟩
    | true =>
      have hle := onesTo_le ws k
      obtain ⟨H', q1, q2⟩ := ha.app (.int .i64 (k : Int)) (by omega) 8 (by omega)
      simp (disch := first | omega | (simp only [List.length_append, List.length_cons, List.length_nil]; omega)) only [List.append_assoc, q1, e5, go_sem, ↓reduceIte, reduceCtorEq, Nat.reduceAdd, Nat.reduceSub, Nat.reducePow, Nat.reduceMul, Nat.reduceEqDiff, Nat.reduceLT, Nat.reduceLeDiff, Int.reduceToNat, Int.reduceLT, Int.reduceLE, Int.reduceEq, Int.reduceNeg, Int.reduceAdd, Int.reduceSub, Int.reduceMul]
      rw [hbk] at hsu
      simp only [if_true] at hsu
      rw [← i64s_snoc, ← hsu] at q2
      have hl2 : (onesTo ws k).length + 1 = (onesTo ws (k + 1)).length := by rw [hsu, List.length_append]; rfl
      rw [hl2] at q2
      exact ⟨hkn, _, H', q2, by rw [← hl2]; exact junk rfl⟩
  · have hkn' : ¬ (k : Int) < ((64 * ws.length : Nat) : Int) := by omega
    have : k = 64 * ws.length := by omega
    subst this
    simp (disch := first | omega | (simp only [List.length_append, List.length_cons, List.length_nil]; omega)) only [c31r0, c31r1, c31r2, c31r3, c31r4, c31r5, c31r6, c31l7, c31r8, s'.lend, s'.sort, e0, hkn', go_sem, ↓reduceIte, reduceCtorEq, Nat.reduceAdd, Nat.reduceSub, Nat.reducePow, Nat.reduceMul, Nat.reduceEqDiff, Nat.reduceLT, Nat.reduceLeDiff, Int.reduceToNat, Int.reduceLT, Int.reduceLE, Int.reduceEq, Int.reduceNeg, Int.reduceAdd, Int.reduceSub, Int.reduceMul]
    exact ha.fin fun k => underL_i64s k _

theorem i64s_length (l : List Nat) : (i64s l).length = l.length := by simp [i64s]
theorem firstRef_fc (h : Heap) (row : D) (ws : List Nat) (s : SlOf h 1 row (u64s ws) ws.length) (hlen : ws.length ≤ 1048576) (hw : ∀ w ∈ ws, w < 18446744073709551616) :
    FC Try.prog 28 [row] h fun d h' => d = .int .i64 (firstB ws) ∧ h' = h := by
  refine FC.goes cf28 ?_; simp only [c28]; simp only [List.length_cons, List.length_nil, Nat.reduceAdd, Nat.reduceSub, List.replicate_succ, List.replicate_zero, List.cons_append, List.nil_append]
  simp (disch := first | omega | (simp only [List.length_append, List.length_cons, List.length_nil]; omega)) only [c28r0, c28r1, c28r2, c28r3, c28r4, go_sem, ↓reduceIte, reduceCtorEq, Nat.reduceAdd, Nat.reduceSub, Nat.reducePow, Nat.reduceMul, Nat.reduceEqDiff, Nat.reduceLT, Nat.reduceLeDiff, Int.reduceToNat, Int.reduceLT, Int.reduceLE, Int.reduceEq, Int.reduceNeg, Int.reduceAdd, Int.reduceSub, Int.reduceMul]
  refine gfc_of (listRef_fc _ row ws s hlen hw) ?_
  have hle := onesTo_le ws (64 * ws.length)
  have hf : firstB ws = match onesL ws with | [] => -1 | x :: _ => x := rfl
  rintro d h' (⟨rfl, hc, hn, rfl⟩ | ⟨rfl, rfl⟩)
  · have : onesL ws = [] := List.length_eq_zero_iff.1 hn
    rw [hf, this]
    simp (disch := first | omega | (simp only [List.length_append, List.length_cons, List.length_nil]; omega)) only [go_sem, ↓reduceIte, reduceCtorEq, Nat.reduceAdd, Nat.reduceSub, Nat.reducePow, Nat.reduceMul, Nat.reduceEqDiff, Nat.reduceLT, Nat.reduceLeDiff, Int.reduceToNat, Int.reduceLT, Int.reduceLE, Int.reduceEq, Int.reduceNeg, Int.reduceAdd, Int.reduceSub, Int.reduceMul]
    exact FinOk.all ⟨rfl, rfl⟩
  · cases hl : onesL ws with
    | nil =>
      rw [hf, hl]
      simp (disch := first | omega | (simp only [List.length_append, List.length_cons, List.length_nil]; omega)) only [List.length_nil, go_sem, ↓reduceIte, reduceCtorEq, Nat.reduceAdd, Nat.reduceSub, Nat.reducePow, Nat.reduceMul, Nat.reduceEqDiff, Nat.reduceLT, Nat.reduceLeDiff, Int.reduceToNat, Int.reduceLT, Int.reduceLE, Int.reduceEq, Int.reduceNeg, Int.reduceAdd, Int.reduceSub, Int.reduceMul]
      exact FinOk.drop (.inl rfl) rfl ⟨rfl, rfl⟩
    | cons x l =>
      rw [hf, hl]
      have e1 : ¬ ((l.length + 1 : Nat) : Int) = 0 := by omega
      have e2 : (0 : Int) < ((l.length + 1 : Nat) : Int) := by omega
      have e3 : (i64s (x :: l)) = .int .i64 (x : Int) :: i64s l := rfl
      have e4 : (i64s l).length = l.length := i64s_length l
      simp (disch := first | omega | (simp only [List.length_append, List.length_cons, List.length_nil]; omega)) only [e1, e2, e3, e4, go_sem, ↓reduceIte, reduceCtorEq, Nat.reduceAdd, Nat.reduceSub, Nat.reducePow, Nat.reduceMul, Nat.reduceEqDiff, Nat.reduceLT, Nat.reduceLeDiff, Int.reduceToNat, Int.reduceLT, Int.reduceLE, Int.reduceEq, Int.reduceNeg, Int.reduceAdd, Int.reduceSub, Int.reduceMul]
      exact FinOk.drop (.inl rfl) rfl ⟨rfl, rfl⟩
end Go.Proofs
