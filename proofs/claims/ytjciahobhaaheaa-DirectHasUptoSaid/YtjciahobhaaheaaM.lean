/-
  Own work. The walks of Text, Parse, and of the document's ones.
-/
import Derived.Test.YtjciahobhaaheaaL
namespace Go.Proofs
open Go Go.Ytjciahobhaaheaa
set_option linter.unusedVariables false
set_option linter.unusedSimpArgs false
set_option maxRecDepth 10000

/-! ### weighbridge/bitrow.Text, params 2 -/
def c39r0 : List AStm := [.op (some 4) none (.mv (.c (.str (bs []))))]
def c39r1 : List AStm := [.op (some 7) none (.mv (.t 1)),
    .op (some 8) none (.bin .lss (.t 7) (.c (.int .i64 0))),
    .op (some 9) none (.mv (.t 8)),
    .op (some 10) (some (9, false)) (.mv (.t 1)),
    .op (some 11) (some (9, false)) (.bin .gtr (.t 10) (.c (.int .i64 65536))),
    .op (some 12) none (.pick (.t 9) (.c (.bool true)) (.t 11))]
def c39r2 : List AStm := [.op (some 4) none (.mv (.c (.str (bs []))))]
def c39r3 : List AStm := [.op (some 13) none (.mv (.t 1)),
    .op (some 14) none (.mks 1 1 [(.int .u8 0)] (.t 13) (.t 13)),
    .op (some 5) none (.mv (.t 14))]
def c39r4 : List AStm := [.op (some 15) none (.mv (.t 5)),
    .op (some 16) none (.len false (.t 15)),
    .op (some 17) none (.mv (.c (.int .i64 0)))]
def c39r5 : List AStm := [.op (some 18) none (.bin .lss (.t 17) (.t 16))]
def c39r6 : List AStm := [.op (some 19) none (.mv (.t 17)),
    .op (some 6) none (.mv (.t 19))]
def c39r7 : List AStm := [.op (some 20) none (.mv (.t 5)),
    .op (some 21) none (.mv (.t 6)),
    .op (some 22) none (.ixs 1 (.t 20) (.t 21)),
    .op none none (.store 1 (.t 22) (.c (.int .u8 48)))]
def c39r8 : List AStm := [.op (some 23) none (.mv (.t 0)),
    .op (some 24) none (.mv (.t 6)),
    .call (some 25) none (.c (.fn (.func 18) [] [])) [(.t 23), (.t 24)]]
def c39r9 : List AStm := [.op (some 26) none (.mv (.t 5)),
    .op (some 27) none (.mv (.t 6)),
    .op (some 28) none (.ixs 1 (.t 26) (.t 27)),
    .op none none (.store 1 (.t 28) (.c (.int .u8 49)))]
def c39r10 : List AStm := [.op (some 29) none (.bin .add (.t 17) (.c (.int .i64 1))),
    .op (some 17) none (.mv (.t 29))]
def c39l11 : AC := .seq (.reg c39r5) (.seq (.cond (.t 18) (.skip) (.exit 0)) (.seq (.block 1 (.seq (.reg c39r6) (.seq (.reg c39r7) (.seq (.reg c39r8) (.cond (.t 25) (.reg c39r9) (.skip)))))) (.reg c39r10)))
def c39r12 : List AStm := [.op (some 30) none (.mv (.t 5)),
    .op (some 31) none (.b2s (.t 30)),
    .op (some 4) none (.mv (.t 31))]
def c39 : CF := ⟨.seq (.reg c39r0) (.seq (.seq (.reg c39r1) (.cond (.t 12) (.seq (.reg c39r2) (.ret)) (.skip))) (.seq (.reg c39r3) (.seq (.seq (.reg c39r4) (.block 0 (.loop c39l11))) (.seq (.reg c39r12) (.ret))))), [.tmp 4], 32⟩
theorem cf39 : cfun Try.prog 39 = some c39 := by kernel_rfl

/-! ### weighbridge/weighbridgeref18.Text, params 2 -/
def c40r0 : List AStm := [.op (some 4) none (.mv (.c (.str (bs []))))]
def c40r1 : List AStm := [.op (some 5) none (.mv (.c .nils))]
def c40r2 : List AStm := [.op (some 6) none (.mv (.c (.int .i64 0)))]
def c40r3 : List AStm := [.op (some 8) none (.mv (.t 6)),
    .op (some 9) none (.mv (.t 1)),
    .op (some 10) none (.bin .lss (.t 8) (.t 9)),
    .op (some 11) none (.mv (.t 10)),
    .op (some 12) (some (11, true)) (.mv (.t 1)),
    .op (some 13) (some (11, true)) (.bin .leq (.t 12) (.c (.int .i64 65536))),
    .op (some 14) none (.pick (.t 11) (.t 13) (.c (.bool false)))]
def c40r4 : List AStm := [.op (some 7) none (.mv (.c (.int .u8 48)))]
def c40r5 : List AStm := [.op (some 17) none (.mv (.t 0)),
    .op (some 18) none (.mv (.t 6)),
    .call (some 19) none (.c (.fn (.func 26) [] [])) [(.t 17), (.t 18)]]
def c40r6 : List AStm := [.op (some 7) none (.mv (.c (.int .u8 49)))]
def c40r7 : List AStm := [.op (some 20) none (.mv (.t 5)),
    .op (some 21) none (.mv (.t 7)),
    .op (some 22) none (.bslice 1 [(.int .u8 0)] 1 [(0, 1, (.t 21))]),
    .op (some 23) none (.append false 1 1 (.t 20) (.t 22)),
    .op (some 5) none (.mv (.t 23))]
def c40r8 : List AStm := [.op (some 15) none (.mv (.t 6)),
    .op (some 16) none (.bin .add (.t 15) (.c (.int .i64 1))),
    .op (some 6) none (.mv (.t 16))]
def c40l9 : AC := .seq (.seq (.reg c40r3) (.cond (.t 14) (.skip) (.exit 0))) (.seq (.block 1 (.seq (.reg c40r4) (.seq (.seq (.reg c40r5) (.cond (.t 19) (.reg c40r6) (.skip))) (.reg c40r7)))) (.reg c40r8))
def c40r10 : List AStm := [.op (some 24) none (.mv (.t 5)),
    .op (some 25) none (.b2s (.t 24)),
    .op (some 4) none (.mv (.t 25))]
def c40 : CF := ⟨.seq (.reg c40r0) (.seq (.reg c40r1) (.seq (.seq (.reg c40r2) (.block 0 (.loop c40l9))) (.seq (.reg c40r10) (.ret)))), [.tmp 4], 26⟩
theorem cf40 : cfun Try.prog 40 = some c40 := by kernel_rfl

/-! ### weighbridge/weighbridgeref18.Of, params 2 -/
def c41r0 : List AStm := [.op (some 4) none (.mv (.c .nils))]
def c41r1 : List AStm := [.op (some 7) none (.mv (.t 0)),
    .call (some 8) none (.c (.fn (.func 22) [] [])) [(.t 7)],
    .op (some 5) none (.mv (.t 8))]
def c41r2 : List AStm := [.op (some 6) none (.mv (.c (.int .i64 0)))]
def c41r3 : List AStm := [.op (some 9) none (.mv (.t 6)),
    .op (some 10) none (.mv (.t 1)),
    .op (some 11) none (.len false (.t 10)),
    .op (some 12) none (.bin .lss (.t 9) (.t 11))]
def c41r4 : List AStm := [.op (some 15) none (.mv (.t 5)),
    .op (some 16) none (.mv (.t 1)),
    .op (some 17) none (.mv (.t 6)),
    .op (some 18) none (.ixs 1 (.t 16) (.t 17)),
    .op (some 19) none (.load none (.t 18)),
    .call (some 20) none (.c (.fn (.func 25) [] [])) [(.t 15), (.t 19)],
    .op (some 5) none (.mv (.t 20))]
def c41r5 : List AStm := [.op (some 13) none (.mv (.t 6)),
    .op (some 14) none (.bin .add (.t 13) (.c (.int .i64 1))),
    .op (some 6) none (.mv (.t 14))]
def c41l6 : AC := .seq (.seq (.reg c41r3) (.cond (.t 12) (.skip) (.exit 0))) (.seq (.block 1 (.reg c41r4)) (.reg c41r5))
def c41r7 : List AStm := [.op (some 21) none (.mv (.t 5)),
    .op (some 4) none (.mv (.t 21))]
def c41 : CF := ⟨.seq (.reg c41r0) (.seq (.reg c41r1) (.seq (.seq (.reg c41r2) (.block 0 (.loop c41l6))) (.seq (.reg c41r7) (.ret)))), [.tmp 4], 22⟩
theorem cf41 : cfun Try.prog 41 = some c41 := by kernel_rfl

/-! ### weighbridge/bitrow.Parse, params 1 -/
def c37r0 : List AStm := [.op (some 2) none (.mv (.c .nils)),
    .op (some 3) none (.alloc [(.int .i64 0), (.int .i64 0)])]
def c37r1 : List AStm := [.op (some 6) none (.mv (.t 0)),
    .op (some 7) none (.len true (.t 6)),
    .op (some 8) none (.bin .gtr (.t 7) (.c (.int .i64 65536)))]
def c37r2 : List AStm := [.op (some 9) none (.build [(.int .i64 0), (.int .i64 0)] [(0, 1, (.c (.int .i64 18))), (1, 1, (.c (.int .i64 65536)))]),
    .op (some 2) none (.mv (.c .nils)),
    .op none none (.store 2 (.t 3) (.t 9))]
def c37r3 : List AStm := [.op (some 10) none (.mv (.t 0)),
    .op (some 11) none (.len true (.t 10)),
    .call (some 12) none (.c (.fn (.func 21) [] [])) [(.t 11)],
    .op (some 4) none (.mv (.t 12))]
def c37r4 : List AStm := [.op (some 13) none (.mv (.t 0)),
    .op (some 14) none (.len true (.t 13)),
    .op (some 15) none (.mv (.c (.int .i64 0)))]
def c37r5 : List AStm := [.op (some 16) none (.bin .lss (.t 15) (.t 14))]
def c37r6 : List AStm := [.op (some 17) none (.mv (.t 15)),
    .op (some 5) none (.mv (.t 17))]
def c37r7 : List AStm := [.op (some 18) none (.mv (.t 0)),
    .op (some 19) none (.mv (.t 5)),
    .op (some 20) none (.ixstr (.t 18) (.t 19))]
def c37r8 : List AStm := [.op (some 24) none (.bin .eql (.t 20) (.c (.int .u8 48))),
    .op (some 23) none (.mv (.t 24))]
def c37r9 : List AStm := [.op (some 26) none (.bin .eql (.t 20) (.c (.int .u8 49))),
    .op (some 25) none (.mv (.t 26))]
def c37r10 : List AStm := [.op (some 27) none (.mv (.t 4)),
    .op (some 28) none (.mv (.t 5)),
    .op (some 29) none (.bin .quo (.t 28) (.c (.int .i64 64))),
    .op (some 30) none (.ixs 1 (.t 27) (.t 29)),
    .op (some 31) none (.load none (.t 30)),
    .op (some 32) none (.mv (.t 5)),
    .op (some 33) none (.bin .rem (.t 32) (.c (.int .i64 64))),
    .op (some 34) none (.conv .u64 (.t 33)),
    .op (some 35) none (.bin .shl (.c (.int .u64 1)) (.t 34)),
    .op (some 36) none (.bin .or (.t 31) (.t 35)),
    .op (some 37) none (.ixs 1 (.t 27) (.t 29)),
    .op none none (.store 1 (.t 37) (.t 36))]
def c37r11 : List AStm := [.op (some 21) none (.mv (.t 5)),
    .op (some 22) none (.build [(.int .i64 0), (.int .i64 0)] [(0, 1, (.c (.int .i64 3))), (1, 1, (.t 21))]),
    .op (some 2) none (.mv (.c .nils)),
    .op none none (.store 2 (.t 3) (.t 22))]
def c37r12 : List AStm := [.op (some 38) none (.bin .add (.t 15) (.c (.int .i64 1))),
    .op (some 15) none (.mv (.t 38))]
def c37l13 : AC := .seq (.reg c37r5) (.seq (.cond (.t 16) (.skip) (.exit 0)) (.seq (.block 1 (.seq (.reg c37r6) (.seq (.reg c37r7) (.block 2 (.seq (.reg c37r8) (.cond (.t 23) (.skip) (.seq (.reg c37r9) (.cond (.t 25) (.reg c37r10) (.seq (.reg c37r11) (.ret)))))))))) (.reg c37r12)))
def c37r14 : List AStm := [.op (some 39) none (.mv (.t 4)),
    .op (some 40) none (.build [(.int .i64 0), (.int .i64 0)] []),
    .op (some 2) none (.mv (.t 39)),
    .op none none (.store 2 (.t 3) (.t 40))]
def c37 : CF := ⟨.seq (.reg c37r0) (.seq (.seq (.reg c37r1) (.cond (.t 8) (.seq (.reg c37r2) (.ret)) (.skip))) (.seq (.reg c37r3) (.seq (.seq (.reg c37r4) (.block 0 (.loop c37l13))) (.seq (.reg c37r14) (.ret))))), [.tmp 2, .cell 3 (some 2)], 41⟩
theorem cf37 : cfun Try.prog 37 = some c37 := by kernel_rfl

/-! ### weighbridge/weighbridgeref18.Parse, params 1 -/
def c38r0 : List AStm := [.op (some 2) none (.mv (.c .nils)),
    .op (some 3) none (.alloc [(.int .i64 0), (.int .i64 0)])]
def c38r1 : List AStm := [.op (some 6) none (.mv (.t 0)),
    .op (some 7) none (.len true (.t 6)),
    .op (some 8) none (.bin .gtr (.t 7) (.c (.int .i64 65536)))]
def c38r2 : List AStm := [.op (some 9) none (.build [(.int .i64 0), (.int .i64 0)] [(0, 1, (.c (.int .i64 18))), (1, 1, (.c (.int .i64 65536)))]),
    .op (some 2) none (.mv (.c .nils)),
    .op none none (.store 2 (.t 3) (.t 9))]
def c38r3 : List AStm := [.op (some 4) none (.mv (.c .nils))]
def c38r4 : List AStm := [.op (some 5) none (.mv (.c (.int .i64 0)))]
def c38r5 : List AStm := [.op (some 10) none (.mv (.t 5)),
    .op (some 11) none (.mv (.t 0)),
    .op (some 12) none (.len true (.t 11)),
    .op (some 13) none (.bin .lss (.t 10) (.t 12))]
def c38r6 : List AStm := [.op (some 16) none (.mv (.t 0)),
    .op (some 17) none (.mv (.t 5)),
    .op (some 18) none (.ixstr (.t 16) (.t 17)),
    .op (some 19) none (.bin .neq (.t 18) (.c (.int .u8 48))),
    .op (some 20) none (.mv (.t 19)),
    .op (some 21) (some (20, true)) (.mv (.t 0)),
    .op (some 22) (some (20, true)) (.mv (.t 5)),
    .op (some 23) (some (20, true)) (.ixstr (.t 21) (.t 22)),
    .op (some 24) (some (20, true)) (.bin .neq (.t 23) (.c (.int .u8 49))),
    .op (some 25) none (.pick (.t 20) (.t 24) (.c (.bool false)))]
def c38r7 : List AStm := [.op (some 26) none (.mv (.t 5)),
    .op (some 27) none (.build [(.int .i64 0), (.int .i64 0)] [(0, 1, (.c (.int .i64 3))), (1, 1, (.t 26))]),
    .op (some 2) none (.mv (.c .nils)),
    .op none none (.store 2 (.t 3) (.t 27))]
def c38r8 : List AStm := [.op (some 28) none (.mv (.t 0)),
    .op (some 29) none (.mv (.t 5)),
    .op (some 30) none (.ixstr (.t 28) (.t 29)),
    .op (some 31) none (.bin .eql (.t 30) (.c (.int .u8 49)))]
def c38r9 : List AStm := [.op (some 32) none (.mv (.t 4)),
    .op (some 33) none (.mv (.t 5)),
    .op (some 34) none (.bslice 1 [(.int .i64 0)] 1 [(0, 1, (.t 33))]),
    .op (some 35) none (.append false 1 8 (.t 32) (.t 34)),
    .op (some 4) none (.mv (.t 35))]
def c38r10 : List AStm := [.op (some 14) none (.mv (.t 5)),
    .op (some 15) none (.bin .add (.t 14) (.c (.int .i64 1))),
    .op (some 5) none (.mv (.t 15))]
def c38l11 : AC := .seq (.seq (.reg c38r5) (.cond (.t 13) (.skip) (.exit 0))) (.seq (.block 1 (.seq (.seq (.reg c38r6) (.cond (.t 25) (.seq (.reg c38r7) (.ret)) (.skip))) (.seq (.reg c38r8) (.cond (.t 31) (.reg c38r9) (.skip))))) (.reg c38r10))
def c38r12 : List AStm := [.op (some 36) none (.mv (.t 0)),
    .op (some 37) none (.len true (.t 36)),
    .op (some 38) none (.mv (.t 4)),
    .call (some 39) none (.c (.fn (.func 41) [] [])) [(.t 37), (.t 38)],
    .op (some 40) none (.build [(.int .i64 0), (.int .i64 0)] []),
    .op (some 2) none (.mv (.t 39)),
    .op none none (.store 2 (.t 3) (.t 40))]
def c38 : CF := ⟨.seq (.reg c38r0) (.seq (.seq (.reg c38r1) (.cond (.t 8) (.seq (.reg c38r2) (.ret)) (.skip))) (.seq (.reg c38r3) (.seq (.seq (.reg c38r4) (.block 0 (.loop c38l11))) (.seq (.reg c38r12) (.ret))))), [.tmp 2, .cell 3 (some 2)], 41⟩
theorem cf38 : cfun Try.prog 38 = some c38 := by kernel_rfl



def digB (ws : List Nat) (i : Nat) : UInt8 := if hasB ws i then 49 else 48
/-- The first bits as digits. -/
def textB (ws : List Nat) (n : Nat) : List UInt8 := (List.range n).map (digB ws)
def textR (ws : List Nat) (n : Int) : List UInt8 := if n < 0 ∨ 65536 < n then [] else textB ws n.toNat
def txTo (ws : List Nat) (n k : Nat) : List UInt8 := (List.range n).map fun i => if i < k then digB ws i else 0
theorem txTo_length (ws : List Nat) (n k : Nat) : (txTo ws n k).length = n := by simp [txTo]
theorem txTo_get (ws : List Nat) (n k i : Nat) (h : i < n) : (txTo ws n k)[i]? = some (if i < k then digB ws i else 0) := by
  rw [txTo, List.getElem?_map, List.getElem?_range h]; rfl
theorem txTo_set {ws : List Nat} {n k : Nat} (h : k < n) : (txTo ws n k).set k (digB ws k) = txTo ws n (k + 1) := by
  apply List.ext_getElem?
  intro i
  rw [List.getElem?_set]
  by_cases hi : i < n
  · rw [txTo_length, txTo_get _ _ _ _ hi, txTo_get _ _ _ _ hi]
    by_cases e : k = i
    · subst e
      rw [if_pos rfl, if_pos h, if_pos (by omega)]
    · rw [if_neg e]
      have : (i < k + 1) ↔ i < k := by omega
      simp only [this]
  · have e : ¬ (k = i) := by omega
    rw [if_neg e, List.getElem?_eq_none (by rw [txTo_length]; omega), List.getElem?_eq_none (by rw [txTo_length]; omega)]
theorem txTo_full (ws : List Nat) (n : Nat) : txTo ws n n = textB ws n := by
  unfold txTo textB
  apply List.map_congr_left
  intro i hi
  rw [if_pos (List.mem_range.1 hi)]
theorem txTo_zero (ws : List Nat) (n : Nat) : txTo ws n 0 = List.replicate n 0 := by
  unfold txTo
  apply List.ext_getElem?
  intro i
  by_cases h : i < n
  · rw [List.getElem?_map, List.getElem?_range h, List.getElem?_replicate, if_pos h]; simp
  · rw [List.getElem?_eq_none (by simp; omega), List.getElem?_eq_none (by simp; omega)]
theorem ofBytes_put (l : List UInt8) (k : Nat) (b : UInt8) : ofBytes (l.set k b) = (ofBytes l).set k (.int .u8 (b.toNat : Int)) := by
  simp [ofBytes, List.map_set]

theorem text_fc (h : Heap) (row : D) (ws : List Nat) (s : RowOf h row ws) (hw : Words ws) (n : Int) (h0 : -9223372036854775808 ≤ n) (h1 : n < 9223372036854775808) :
    FC Try.prog 39 [row, .int .i64 n] h fun d h' => d = .str (bs (textR ws n)) ∧ h' = h := by
  refine FC.goes cf39 ?_; simp only [c39]; simp only [List.length_cons, List.length_nil, Nat.reduceAdd, Nat.reduceSub, List.replicate_succ, List.replicate_zero, List.cons_append, List.nil_append]
  by_cases hn : n < 0
  · have he : textR ws n = [] := by simp [textR, hn]
    rw [he]
    simp (disch := first | omega | (simp only [List.length_append, List.length_cons, List.length_nil]; omega)) only [c39r0, c39r1, c39r2, c39r3, c39r4, c39r5, c39r6, c39r7, c39r8, c39r9, c39r10, c39l11, c39r12, hn, go_sem, ↓reduceIte, reduceCtorEq, Nat.reduceAdd, Nat.reduceSub, Nat.reducePow, Nat.reduceMul, Nat.reduceEqDiff, Nat.reduceLT, Nat.reduceLeDiff, Int.reduceToNat, Int.reduceLT, Int.reduceLE, Int.reduceEq, Int.reduceNeg, Int.reduceAdd, Int.reduceSub, Int.reduceMul]
    exact FinOk.all ⟨rfl, rfl⟩
  · by_cases hg : 65536 < n
    · have he : textR ws n = [] := by simp [textR, hg]
      rw [he]
      simp (disch := first | omega | (simp only [List.length_append, List.length_cons, List.length_nil]; omega)) only [c39r0, c39r1, c39r2, c39r3, c39r4, c39r5, c39r6, c39r7, c39r8, c39r9, c39r10, c39l11, c39r12, hn, hg, go_sem, ↓reduceIte, reduceCtorEq, Nat.reduceAdd, Nat.reduceSub, Nat.reducePow, Nat.reduceMul, Nat.reduceEqDiff, Nat.reduceLT, Nat.reduceLeDiff, Int.reduceToNat, Int.reduceLT, Int.reduceLE, Int.reduceEq, Int.reduceNeg, Int.reduceAdd, Int.reduceSub, Int.reduceMul]
      exact FinOk.all ⟨rfl, rfl⟩
    · obtain ⟨m, rfl⟩ := Int.eq_ofNat_of_zero_le (by omega : 0 ≤ n)
      have he : textR ws (m : Int) = textB ws m := by
        unfold textR
        rw [if_neg (by omega)]; rfl
      have e5 : (0 : Int) ≤ (m : Int) := by omega
      have e6 : (m : Int) ≤ 1073741824 := by omega
      simp (disch := first | omega | (simp only [List.length_append, List.length_cons, List.length_nil]; omega)) only [c39r0, c39r1, c39r2, c39r3, c39r4, c39r5, c39r6, c39r7, c39r8, c39r9, c39r10, c39l11, c39r12, hn, hg, e5, e6, go_sem, ↓reduceIte, reduceCtorEq, Nat.reduceAdd, Nat.reduceSub, Nat.reducePow, Nat.reduceMul, Nat.reduceEqDiff, Nat.reduceLT, Nat.reduceLeDiff, Int.reduceToNat, Int.reduceLT, Int.reduceLE, Int.reduceEq, Int.reduceNeg, Int.reduceAdd, Int.reduceSub, Int.reduceMul]
      have e7 : (List.replicate m [D.int .u8 0]).flatten = ofBytes (txTo ws m 0) := by
        rw [txTo_zero, ofBytes, List.map_replicate]
        clear h0 h1 hn hg e5 e6 he
        induction m with
        | zero => rfl
        | succ q ih => rw [List.replicate_succ, List.flatten_cons, ih, List.replicate_succ]; rfl
      rw [he]
      refine loop_to m (fun k st => ∃ (j : Nat → D), st = ⟨(row :: j 1 :: j 2 :: j 3 :: j 4 :: .own h.length m :: j 6 :: j 7 :: j 8 :: j 9 :: j 10 :: j 11 :: j 12 :: j 13 :: j 14 :: j 15 :: .int .i64 (m : Int) :: .int .i64 (k : Int) :: j 18 :: j 19 :: j 20 :: j 21 :: j 22 :: j 23 :: j 24 :: j 25 :: j 26 :: j 27 :: j 28 :: j 29 :: j 30 :: j 31 :: []), h ++ [.grow 1 (ofBytes (txTo ws m k)) m]⟩) (by rw [← e7]; exact junk rfl) ?_
      rintro k st hk ⟨j, rfl⟩
      by_cases hkm : k < m
      · have hkm' : (k : Int) < m := by omega
        have hl : (ofBytes (txTo ws m k)).length = m := by rw [ofBytes_length, txTo_length]
        have e3 : IntKind.i64.wrap ((k : Int) + 1) = ((k + 1 : Nat) : Int) := by rw [w_i64 (by omega) (by omega)]; omega
        simp (disch := first | omega | (simp only [List.length_append, List.length_cons, List.length_nil]; omega)) only [c39r0, c39r1, c39r2, c39r3, c39r4, c39r5, c39r6, c39r7, c39r8, c39r9, c39r10, c39l11, c39r12, hkm', hl, go_sem, ↓reduceIte, reduceCtorEq, Nat.reduceAdd, Nat.reduceSub, Nat.reducePow, Nat.reduceMul, Nat.reduceEqDiff, Nat.reduceLT, Nat.reduceLeDiff, Int.reduceToNat, Int.reduceLT, Int.reduceLE, Int.reduceEq, Int.reduceNeg, Int.reduceAdd, Int.reduceSub, Int.reduceMul]
        refine gfc_of (has_fc _ row ws (s.low _) hw (k : Int) (by omega) (by omega)) ?_
        rintro d h' ⟨rfl, e⟩
        rw [e, hasR_nat]
        have hset := txTo_set (ws := ws) hkm
        cases hb : hasB ws k with
        | false =>
          simp (disch := first | omega | (simp only [List.length_append, List.length_cons, List.length_nil]; omega)) only [e3, go_sem, ↓reduceIte, reduceCtorEq, Nat.reduceAdd, Nat.reduceSub, Nat.reducePow, Nat.reduceMul, Nat.reduceEqDiff, Nat.reduceLT, Nat.reduceLeDiff, Int.reduceToNat, Int.reduceLT, Int.reduceLE, Int.reduceEq, Int.reduceNeg, Int.reduceAdd, Int.reduceSub, Int.reduceMul]
          have hd : digB ws k = 48 := by simp [digB, hb]
          refine ⟨hkm, ?_⟩
          rw [← hset, hd, ofBytes_put]
          exact junk rfl
        | true =>
          have hd : digB ws k = 49 := by simp [digB, hb]
          simp (disch := first | omega | (simp only [List.length_append, List.length_cons, List.length_nil]; omega)) only [e3, hl, List.length_set, List.set_set, go_sem, ↓reduceIte, reduceCtorEq, Nat.reduceAdd, Nat.reduceSub, Nat.reducePow, Nat.reduceMul, Nat.reduceEqDiff, Nat.reduceLT, Nat.reduceLeDiff, Int.reduceToNat, Int.reduceLT, Int.reduceLE, Int.reduceEq, Int.reduceNeg, Int.reduceAdd, Int.reduceSub, Int.reduceMul]
          refine ⟨hkm, ?_⟩
          rw [← hset, hd, ofBytes_put]
          exact junk rfl
      · have hkm' : ¬ (k : Int) < m := by omega
        have : k = m := by omega
        subst this
        rw [txTo_full]
        have hl : (textB ws k).length = k := by simp [textB]
        simp (disch := first | omega | (simp only [List.length_append, List.length_cons, List.length_nil]; omega)) only [c39r0, c39r1, c39r2, c39r3, c39r4, c39r5, c39r6, c39r7, c39r8, c39r9, c39r10, c39l11, c39r12, hkm', hl, go_sem, ↓reduceIte, reduceCtorEq, Nat.reduceAdd, Nat.reduceSub, Nat.reducePow, Nat.reduceMul, Nat.reduceEqDiff, Nat.reduceLT, Nat.reduceLeDiff, Int.reduceToNat, Int.reduceLT, Int.reduceLE, Int.reduceEq, Int.reduceNeg, Int.reduceAdd, Int.reduceSub, Int.reduceMul]
        exact FinOk.drop (.inl rfl) rfl ⟨rfl, rfl⟩

theorem textB_snoc (ws : List Nat) (k : Nat) : textB ws (k + 1) = textB ws k ++ [digB ws k] := by simp [textB, List.range_succ]
theorem textRef_fc (h : Heap) (row : D) (ws : List Nat) (s : RowOf h row ws) (hlen : ws.length ≤ 1048576) (hw : Words ws) (n : Int) (h0 : -9223372036854775808 ≤ n) (h1 : n < 9223372036854775808) :
    FC Try.prog 40 [row, .int .i64 n] h fun d h' => d = .str (bs (textR ws n)) ∧ h' = h := by
  refine FC.goes cf40 ?_; simp only [c40]; simp only [List.length_cons, List.length_nil, Nat.reduceAdd, Nat.reduceSub, List.replicate_succ, List.replicate_zero, List.cons_append, List.nil_append]
  simp (disch := first | omega | (simp only [List.length_append, List.length_cons, List.length_nil]; omega)) only [c40r0, c40r1, c40r2, c40r3, c40r4, c40r5, c40r6, c40r7, c40r8, c40l9, c40r10, go_sem, ↓reduceIte, reduceCtorEq, Nat.reduceAdd, Nat.reduceSub, Nat.reducePow, Nat.reduceMul, Nat.reduceEqDiff, Nat.reduceLT, Nat.reduceLeDiff, Int.reduceToNat, Int.reduceLT, Int.reduceLE, Int.reduceEq, Int.reduceNeg, Int.reduceAdd, Int.reduceSub, Int.reduceMul]
  by_cases hc : n < 0 ∨ 65536 < n
  · have he : textR ws n = [] := by simp [textR, hc]
    rw [he]
    refine loop_to 0 (fun k st => ∃ (j : Nat → D), st = ⟨(row :: .int .i64 n :: j 2 :: j 3 :: j 4 :: .nils :: .int .i64 0 :: j 7 :: j 8 :: j 9 :: j 10 :: j 11 :: j 12 :: j 13 :: j 14 :: j 15 :: j 16 :: j 17 :: j 18 :: j 19 :: j 20 :: j 21 :: j 22 :: j 23 :: j 24 :: j 25 :: []), h⟩) (junk rfl) ?_
    rintro k st hk ⟨j, rfl⟩
    have hb0 : bytesOf [] = some [] := rfl
    by_cases hn : (0 : Int) < n
    · have hn2 : ¬ (n ≤ 65536) := by omega
      simp (disch := first | omega | (simp only [List.length_append, List.length_cons, List.length_nil]; omega)) only [c40r0, c40r1, c40r2, c40r3, c40r4, c40r5, c40r6, c40r7, c40r8, c40l9, c40r10, hn, hn2, hb0, go_sem, ↓reduceIte, reduceCtorEq, Nat.reduceAdd, Nat.reduceSub, Nat.reducePow, Nat.reduceMul, Nat.reduceEqDiff, Nat.reduceLT, Nat.reduceLeDiff, Int.reduceToNat, Int.reduceLT, Int.reduceLE, Int.reduceEq, Int.reduceNeg, Int.reduceAdd, Int.reduceSub, Int.reduceMul]
      exact FinOk.all ⟨rfl, rfl⟩
    · simp (disch := first | omega | (simp only [List.length_append, List.length_cons, List.length_nil]; omega)) only [c40r0, c40r1, c40r2, c40r3, c40r4, c40r5, c40r6, c40r7, c40r8, c40l9, c40r10, hn, hb0, go_sem, ↓reduceIte, reduceCtorEq, Nat.reduceAdd, Nat.reduceSub, Nat.reducePow, Nat.reduceMul, Nat.reduceEqDiff, Nat.reduceLT, Nat.reduceLeDiff, Int.reduceToNat, Int.reduceLT, Int.reduceLE, Int.reduceEq, Int.reduceNeg, Int.reduceAdd, Int.reduceSub, Int.reduceMul]
      exact FinOk.all ⟨rfl, rfl⟩
  · obtain ⟨m, rfl⟩ := Int.eq_ofNat_of_zero_le (by omega : 0 ≤ n)
    have he : textR ws (m : Int) = textB ws m := by
      unfold textR
      rw [if_neg (by omega)]; rfl
    have hn2 : ((m : Int) ≤ 65536) := by omega
    rw [he]
    refine loop_to m (fun k st => ∃ (d : D) (H : Heap), AppSt h (ofBytes (textB ws k)) k d H ∧ ∃ (j : Nat → D), st = ⟨(row :: .int .i64 (m : Int) :: j 2 :: j 3 :: j 4 :: d :: .int .i64 (k : Int) :: j 7 :: j 8 :: j 9 :: j 10 :: j 11 :: j 12 :: j 13 :: j 14 :: j 15 :: j 16 :: j 17 :: j 18 :: j 19 :: j 20 :: j 21 :: j 22 :: j 23 :: j 24 :: j 25 :: []), h ++ H⟩) ⟨.nils, [], .inl ⟨rfl, rfl, rfl, rfl⟩, by rw [List.append_nil]; exact junk rfl⟩ ?_
    rintro k st hk ⟨d, H, ha, j, rfl⟩
    by_cases hkm : k < m
    · have hkm' : (k : Int) < m := by omega
      have e1 : IntKind.i64.wrap ((k : Int) + 1) = ((k + 1 : Nat) : Int) := by rw [w_i64 (by omega) (by omega)]; omega
      simp (disch := first | omega | (simp only [List.length_append, List.length_cons, List.length_nil]; omega)) only [c40r0, c40r1, c40r2, c40r3, c40r4, c40r5, c40r6, c40r7, c40r8, c40l9, c40r10, hkm', hn2, go_sem, ↓reduceIte, reduceCtorEq, Nat.reduceAdd, Nat.reduceSub, Nat.reducePow, Nat.reduceMul, Nat.reduceEqDiff, Nat.reduceLT, Nat.reduceLeDiff, Int.reduceToNat, Int.reduceLT, Int.reduceLE, Int.reduceEq, Int.reduceNeg, Int.reduceAdd, Int.reduceSub, Int.reduceMul]
      refine gfc_of (hasRef_fc _ row ws (s.low _) hlen hw (k : Int) (by omega) (by omega)) ?_
      rintro d2 h' ⟨rfl, e⟩
      rw [e, hasR_nat]
      have hsn := textB_snoc ws k
      cases hb : hasB ws k with
      | false =>
        have hd : digB ws k = 48 := by simp [digB, hb]
        obtain ⟨H', q1, q2⟩ := ha.app (.int .u8 48) (by omega) 1 (by omega)
        simp (disch := first | omega | (simp only [List.length_append, List.length_cons, List.length_nil]; omega)) only [List.append_assoc, q1, e1, go_sem, ↓reduceIte, reduceCtorEq, Nat.reduceAdd, Nat.reduceSub, Nat.reducePow, Nat.reduceMul, Nat.reduceEqDiff, Nat.reduceLT, Nat.reduceLeDiff, Int.reduceToNat, Int.reduceLT, Int.reduceLE, Int.reduceEq, Int.reduceNeg, Int.reduceAdd, Int.reduceSub, Int.reduceMul]
        refine ⟨hkm, _, H', ?_, junk rfl⟩
        rw [hsn, hd, ← ofBytes_append]
        exact q2
      | true =>
        have hd : digB ws k = 49 := by simp [digB, hb]
        obtain ⟨H', q1, q2⟩ := ha.app (.int .u8 49) (by omega) 1 (by omega)
        simp (disch := first | omega | (simp only [List.length_append, List.length_cons, List.length_nil]; omega)) only [List.append_assoc, q1, e1, go_sem, ↓reduceIte, reduceCtorEq, Nat.reduceAdd, Nat.reduceSub, Nat.reducePow, Nat.reduceMul, Nat.reduceEqDiff, Nat.reduceLT, Nat.reduceLeDiff, Int.reduceToNat, Int.reduceLT, Int.reduceLE, Int.reduceEq, Int.reduceNeg, Int.reduceAdd, Int.reduceSub, Int.reduceMul]
        refine ⟨hkm, _, H', ?_, junk rfl⟩
        rw [hsn, hd, ← ofBytes_append]
        exact q2
    · have hkm' : ¬ (k : Int) < m := by omega
      have : k = m := by omega
      subst this
      have hl : (textB ws k).length = k := by simp [textB]
      have hsl := (ha.sl (by rw [ofBytes_length, hl])).cells
      simp (disch := first | omega | (simp only [List.length_append, List.length_cons, List.length_nil]; omega)) only [c40r0, c40r1, c40r2, c40r3, c40r4, c40r5, c40r6, c40r7, c40r8, c40l9, c40r10, hkm', hn2, hsl, hl, go_sem, ↓reduceIte, reduceCtorEq, Nat.reduceAdd, Nat.reduceSub, Nat.reducePow, Nat.reduceMul, Nat.reduceEqDiff, Nat.reduceLT, Nat.reduceLeDiff, Int.reduceToNat, Int.reduceLT, Int.reduceLE, Int.reduceEq, Int.reduceNeg, Int.reduceAdd, Int.reduceSub, Int.reduceMul]
      exact FinOk.drop (.inl rfl) rfl ⟨rfl, rfl⟩

/-! ### Of -/
theorem of_fc (h : Heap) (lD : D) (m : Nat) (l : List Nat) (s : SlOf h 1 lD (i64s l) l.length) (hm : m ≤ 65536) (hlen : l.length ≤ 1048576) (hl : ∀ k ∈ l, k < 65600) :
    FC Try.prog 41 [.int .i64 (m : Int), lD] h (Made h (putL ((m + 63) / 64) l)) := by
  refine FC.goes cf41 ?_; simp only [c41]; simp only [List.length_cons, List.length_nil, Nat.reduceAdd, Nat.reduceSub, List.replicate_succ, List.replicate_zero, List.cons_append, List.nil_append]
  simp (disch := first | omega | (simp only [List.length_append, List.length_cons, List.length_nil]; omega)) only [c41r0, c41r1, c41r2, c41r3, c41r4, c41r5, c41l6, c41r7, go_sem, ↓reduceIte, reduceCtorEq, Nat.reduceAdd, Nat.reduceSub, Nat.reducePow, Nat.reduceMul, Nat.reduceEqDiff, Nat.reduceLT, Nat.reduceLeDiff, Int.reduceToNat, Int.reduceLT, Int.reduceLE, Int.reduceEq, Int.reduceNeg, Int.reduceAdd, Int.reduceSub, Int.reduceMul]
  refine gfc_of (newRef_md _ (m : Int) (by omega) (by omega)) ?_
  rintro x1 h1 ⟨E1, s1⟩
  have he : newR (m : Int) = List.replicate ((m + 63) / 64) 0 := by
    unfold newR
    rw [if_neg (by omega)]; rfl
  rw [he] at s1
  have hq : (m + 63) / 64 ≤ 1025 := by omega
  generalize (m + 63) / 64 = q at *
  simp (disch := first | omega | (simp only [List.length_append, List.length_cons, List.length_nil]; omega)) only [go_sem, ↓reduceIte, reduceCtorEq, Nat.reduceAdd, Nat.reduceSub, Nat.reducePow, Nat.reduceMul, Nat.reduceEqDiff, Nat.reduceLT, Nat.reduceLeDiff, Int.reduceToNat, Int.reduceLT, Int.reduceLE, Int.reduceEq, Int.reduceNeg, Int.reduceAdd, Int.reduceSub, Int.reduceMul]
  refine loop_to l.length (fun i st => ∃ (d : D) (hh : Heap), Ext h1 hh ∧ RowOf hh d (putL q (l.take i)) ∧ ∃ (j : Nat → D), st = ⟨(j 0 :: lD :: j 2 :: j 3 :: j 4 :: d :: .int .i64 (i : Int) :: j 7 :: j 8 :: j 9 :: j 10 :: j 11 :: j 12 :: j 13 :: j 14 :: j 15 :: j 16 :: j 17 :: j 18 :: j 19 :: j 20 :: j 21 :: []), hh⟩) ⟨x1, h1, Ext.refl _, s1, junk rfl⟩ ?_
  rintro i st hi ⟨d, hh, Eh, sd, j, rfl⟩
  have sl' := SlOf.ext s (E1.trans Eh)
  by_cases hin : i < l.length
  · have hin' : (i : Int) < l.length := by omega
    obtain ⟨p, cs, q1, q2, q3⟩ := sl'.elem (k := .i64) (i := (i : Int)) (by omega) (by omega)
    have q4 := q3 0 (by omega)
    rw [show ((i : Int).toNat * 1 + 0) = i by omega, i64s_get hin] at q4
    have gi : l.getD i 0 = l[i] := by simp [List.getD_eq_getElem?_getD, List.getElem?_eq_getElem hin]
    have hmi : l.getD i 0 < 65600 := by rw [gi]; exact hl _ (List.getElem_mem hin)
    have hsn : putL q (l.take (i + 1)) = setR (putL q (l.take i)) ((l.getD i 0 : Nat) : Int) := by
      rw [List.take_add_one, List.getElem?_eq_getElem hin, gi]
      exact putL_snoc _ _ _
    have hpl := putL_length q (l.take i)
    have hpw := putL_words q (l.take i)
    have e5 : IntKind.i64.wrap ((i : Int) + 1) = ((i + 1 : Nat) : Int) := by rw [w_i64 (by omega) (by omega)]; omega
    generalize l.getD i 0 = v at *
    simp (disch := first | omega | (simp only [List.length_append, List.length_cons, List.length_nil]; omega)) only [c41r0, c41r1, c41r2, c41r3, c41r4, c41r5, c41l6, c41r7, sl'.lend, sl'.sort, hin', q1, q2, q4, go_sem, ↓reduceIte, reduceCtorEq, Nat.reduceAdd, Nat.reduceSub, Nat.reducePow, Nat.reduceMul, Nat.reduceEqDiff, Nat.reduceLT, Nat.reduceLeDiff, Int.reduceToNat, Int.reduceLT, Int.reduceLE, Int.reduceEq, Int.reduceNeg, Int.reduceAdd, Int.reduceSub, Int.reduceMul]
    refine gfc_of (setRef_md _ d _ sd (by omega) hpw (v : Int) (by omega) (by omega)) ?_
    rintro d2 h3 ⟨E3, s3⟩
    rw [← hsn] at s3
    simp (disch := first | omega | (simp only [List.length_append, List.length_cons, List.length_nil]; omega)) only [e5, go_sem, ↓reduceIte, reduceCtorEq, Nat.reduceAdd, Nat.reduceSub, Nat.reducePow, Nat.reduceMul, Nat.reduceEqDiff, Nat.reduceLT, Nat.reduceLeDiff, Int.reduceToNat, Int.reduceLT, Int.reduceLE, Int.reduceEq, Int.reduceNeg, Int.reduceAdd, Int.reduceSub, Int.reduceMul]
    exact ⟨hin, d2, h3, Eh.trans E3, s3, junk rfl⟩
  · have hin' : ¬ (i : Int) < l.length := by omega
    have : i = l.length := by omega
    subst this
    rw [List.take_length] at sd
    simp (disch := first | omega | (simp only [List.length_append, List.length_cons, List.length_nil]; omega)) only [c41r0, c41r1, c41r2, c41r3, c41r4, c41r5, c41l6, c41r7, sl'.lend, sl'.sort, hin', go_sem, ↓reduceIte, reduceCtorEq, Nat.reduceAdd, Nat.reduceSub, Nat.reducePow, Nat.reduceMul, Nat.reduceEqDiff, Nat.reduceLT, Nat.reduceLeDiff, Int.reduceToNat, Int.reduceLT, Int.reduceLE, Int.reduceEq, Int.reduceNeg, Int.reduceAdd, Int.reduceSub, Int.reduceMul]
    exact FinOk.all ⟨E1.trans Eh, sd⟩

/-! ### Parse -/
def onesT (l : List UInt8) (k : Nat) : List Nat := (List.range k).filter fun j => l.getD j 0 = 49
theorem onesT_succ (l : List UInt8) (k : Nat) : onesT l (k + 1) = onesT l k ++ if l.getD k 0 = 49 then [k] else [] := by
  unfold onesT
  rw [List.range_succ, List.filter_append]
  congr 1
  by_cases h : l.getD k 0 = 49
  · rw [if_pos h]; simp only [List.filter_cons, h, decide_true, if_true, List.filter_nil]
  · rw [if_neg h]; simp only [List.filter_cons, h, decide_false, List.filter_nil]; rfl
theorem onesT_mem {l : List UInt8} {k x : Nat} : x ∈ onesT l k ↔ x < k ∧ l.getD x 0 = 49 := by
  simp [onesT, List.mem_filter, List.mem_range]
theorem onesT_le (l : List UInt8) (k : Nat) : (onesT l k).length ≤ k := by
  have := List.length_filter_le (fun j => decide (l.getD j 0 = 49)) (List.range k)
  simpa [onesT] using this
/-- The row of digits. -/
def digR (l : List UInt8) : List Nat := putL ((l.length + 63) / 64) (onesT l l.length)
def goodB (c : UInt8) : Prop := c = 48 ∨ c = 49
/-- What a text's row is. -/
def PRes (l : List UInt8) (h : Heap) (d : D) (h' : Heap) : Prop :=
  Ext h h' ∧ ((∃ i, i < l.length ∧ ¬ goodB (l.getD i 0) ∧ (∀ j < i, goodB (l.getD j 0)) ∧ d = .tup [.nils, .agg [.int .i64 3, .int .i64 (i : Int)]]) ∨
    ((∀ j < l.length, goodB (l.getD j 0)) ∧ ∃ r, d = .tup [r, .agg [.int .i64 0, .int .i64 0]] ∧ RowOf h' r (digR l)))
theorem putL_nat (q : Nat) (l : List Nat) (k : Nat) (h : k / 64 < q) : putL q (l ++ [k]) = (putL q l).set (k / 64) ((putL q l).getD (k / 64) 0 ||| 2 ^ (k % 64)) := by
  rw [putL_snoc, setR_nat (by rw [putL_length]; exact h)]

theorem parse_fc (h : Heap) (l : List UInt8) (hlen : l.length ≤ 65536) : FC Try.prog 37 [.str (bs l)] h (PRes l h) := by
  have g0 : ¬ (65536 : Int) < l.length := by omega
  refine FC.goes cf37 ?_; simp only [c37]; simp only [List.length_cons, List.length_nil, Nat.reduceAdd, Nat.reduceSub, List.replicate_succ, List.replicate_zero, List.cons_append, List.nil_append]
  simp (disch := first | omega | (simp only [List.length_append, List.length_cons, List.length_nil]; omega)) only [c37r0, c37r1, c37r2, c37r3, c37r4, c37r5, c37r6, c37r7, c37r8, c37r9, c37r10, c37r11, c37r12, c37l13, c37r14, g0, go_sem, ↓reduceIte, reduceCtorEq, Nat.reduceAdd, Nat.reduceSub, Nat.reducePow, Nat.reduceMul, Nat.reduceEqDiff, Nat.reduceLT, Nat.reduceLeDiff, Int.reduceToNat, Int.reduceLT, Int.reduceLE, Int.reduceEq, Int.reduceNeg, Int.reduceAdd, Int.reduceSub, Int.reduceMul]
  refine gfc_of (new_fc _ (l.length : Int) (by omega) (by omega)) ?_
  intro d h' hn
  obtain ⟨H, rfl, ho⟩ := OutSt.of_new hn
  have he : newR (l.length : Int) = putL ((l.length + 63) / 64) (onesT l 0) := by
    unfold newR
    rw [if_neg (by omega)]; rfl
  rw [he] at ho
  simp (disch := first | omega | (simp only [List.length_append, List.length_cons, List.length_nil]; omega)) only [List.append_assoc, go_sem, ↓reduceIte, reduceCtorEq, Nat.reduceAdd, Nat.reduceSub, Nat.reducePow, Nat.reduceMul, Nat.reduceEqDiff, Nat.reduceLT, Nat.reduceLeDiff, Int.reduceToNat, Int.reduceLT, Int.reduceLE, Int.reduceEq, Int.reduceNeg, Int.reduceAdd, Int.reduceSub, Int.reduceMul]
  refine loop_to l.length (fun k st => (∀ j < k, goodB (l.getD j 0)) ∧ ∃ (H : Heap), OutSt (h ++ [.box [.int .i64 0, .int .i64 0]]) (putL ((l.length + 63) / 64) (onesT l k)) d H ∧ ∃ (j : Nat → D), st = ⟨(.str (bs l) :: j 1 :: .nils :: .ref h.length 0 :: d :: j 5 :: j 6 :: j 7 :: j 8 :: j 9 :: j 10 :: j 11 :: j 12 :: j 13 :: .int .i64 (l.length : Int) :: .int .i64 (k : Int) :: j 16 :: j 17 :: j 18 :: j 19 :: j 20 :: j 21 :: j 22 :: j 23 :: j 24 :: j 25 :: j 26 :: j 27 :: j 28 :: j 29 :: j 30 :: j 31 :: j 32 :: j 33 :: j 34 :: j 35 :: j 36 :: j 37 :: j 38 :: j 39 :: j 40 :: []), h ++ .box [.int .i64 0, .int .i64 0] :: H⟩) ⟨fun j hj => absurd hj (by omega), H, ho, junk rfl⟩ ?_
  rintro k st hk ⟨hgood, H, ho, j, rfl⟩
  by_cases hkm : k < l.length
  · have hkm' : (k : Int) < l.length := by omega
    have hg := getB hkm
    have e3 : IntKind.i64.wrap ((k : Int) + 1) = ((k + 1 : Nat) : Int) := by rw [w_i64 (by omega) (by omega)]; omega
    have hsu := onesT_succ l k
    by_cases h48 : l.getD k 0 = 48
    · have e2 : ((l.getD k 0).toNat : Int) = 48 := by rw [h48]; rfl
      have hne : ¬ l.getD k 0 = 49 := by rw [h48]; decide
      simp (disch := first | omega | (simp only [List.length_append, List.length_cons, List.length_nil]; omega)) only [c37r0, c37r1, c37r2, c37r3, c37r4, c37r5, c37r6, c37r7, c37r8, c37r9, c37r10, c37r11, c37r12, c37l13, c37r14, hkm', hg, e2, e3, go_sem, ↓reduceIte, reduceCtorEq, Nat.reduceAdd, Nat.reduceSub, Nat.reducePow, Nat.reduceMul, Nat.reduceEqDiff, Nat.reduceLT, Nat.reduceLeDiff, Int.reduceToNat, Int.reduceLT, Int.reduceLE, Int.reduceEq, Int.reduceNeg, Int.reduceAdd, Int.reduceSub, Int.reduceMul]
      rw [if_neg hne, List.append_nil] at hsu
      rw [← hsu] at ho
      refine ⟨hkm, fun j hj => ?_, H, ho, junk rfl⟩
      by_cases hjk : j = k
      · subst hjk; exact .inl h48
      · exact hgood j (by omega)
    · have e2 : ¬ ((l.getD k 0).toNat : Int) = 48 := fun e => h48 (UInt8.toNat_inj.1 (by show (l.getD k 0).toNat = 48; omega))
      by_cases h49 : l.getD k 0 = 49
      · have e4 : ((l.getD k 0).toNat : Int) = 49 := by rw [h49]; rfl
        have hkq : k / 64 < (l.length + 63) / 64 := by omega
        have hpn := putL_nat ((l.length + 63) / 64) (onesT l k) k hkq
        have hpl := putL_length ((l.length + 63) / 64) (onesT l k)
        have hwk := (putL_words ((l.length + 63) / 64) (onesT l k)).getD (k / 64)
        rw [if_pos h49] at hsu
        rw [← hsu] at hpn
        generalize putL ((l.length + 63) / 64) (onesT l k) = ws at *
        obtain ⟨p, cs, w1, w2, w3, w4⟩ := ho.at (i := k / 64) (by omega)
        obtain ⟨H', w5, w6⟩ := w4 (ws.getD (k / 64) 0 ||| 2 ^ (k % 64))
        rw [← hpn] at w6
        simp only [List.append_assoc, List.cons_append, List.nil_append] at w1 w2 w5
        have g1 : IntKind.i64.wrap ((k / 64 : Nat) : Int) = ((k / 64 : Nat) : Int) := w_i64 (by omega) (by omega)
        have g2 : IntKind.u64.wrap ((k % 64 : Nat) : Int) = ((k % 64 : Nat) : Int) := w_u64 (by omega) (by omega)
        have hp : 2 ^ (k % 64) < 18446744073709551616 := Nat.lt_of_lt_of_eq (Nat.pow_lt_pow_right (n := 64) (by omega) (by omega)) (by rfl)
        have a1 : arith .shl (.int .u64 1) (.int .u64 ((k % 64 : Nat) : Int)) = some (.int .u64 ((2 ^ (k % 64) : Nat) : Int)) := by
          have := shl_u64 (x := 1) (k' := .u64) (b := ((k % 64 : Nat) : Int)) (by omega) (by omega)
          rw [Nat.one_mul, Int.toNat_natCast, w_u64 (Int.natCast_nonneg _) (Int.ofNat_lt.2 hp)] at this
          exact this
        have a2 := or_u64 (x := ws.getD (k / 64) 0) (y := 2 ^ (k % 64)) hwk hp
        simp (disch := first | omega | (simp only [List.length_append, List.length_cons, List.length_nil]; omega)) only [c37r0, c37r1, c37r2, c37r3, c37r4, c37r5, c37r6, c37r7, c37r8, c37r9, c37r10, c37r11, c37r12, c37l13, c37r14, hkm', hg, e2, e4, e3, w1, w2, w3, w5, g1, g2, a1, a2, go_sem, ↓reduceIte, reduceCtorEq, Nat.reduceAdd, Nat.reduceSub, Nat.reducePow, Nat.reduceMul, Nat.reduceEqDiff, Nat.reduceLT, Nat.reduceLeDiff, Int.reduceToNat, Int.reduceLT, Int.reduceLE, Int.reduceEq, Int.reduceNeg, Int.reduceAdd, Int.reduceSub, Int.reduceMul]
        refine ⟨hkm, fun j hj => ?_, H', w6, junk rfl⟩
        by_cases hjk : j = k
        · subst hjk; exact .inr h49
        · exact hgood j (by omega)
      · have e4 : ¬ ((l.getD k 0).toNat : Int) = 49 := fun e => h49 (UInt8.toNat_inj.1 (by show (l.getD k 0).toNat = 49; omega))
        simp (disch := first | omega | (simp only [List.length_append, List.length_cons, List.length_nil]; omega)) only [c37r0, c37r1, c37r2, c37r3, c37r4, c37r5, c37r6, c37r7, c37r8, c37r9, c37r10, c37r11, c37r12, c37l13, c37r14, hkm', hg, e2, e4, fillD, splice0, go_sem, ↓reduceIte, reduceCtorEq, Nat.reduceAdd, Nat.reduceSub, Nat.reducePow, Nat.reduceMul, Nat.reduceEqDiff, Nat.reduceLT, Nat.reduceLeDiff, Int.reduceToNat, Int.reduceLT, Int.reduceLE, Int.reduceEq, Int.reduceNeg, Int.reduceAdd, Int.reduceSub, Int.reduceMul]
        refine FinOk.all ⟨⟨_, rfl⟩, .inl ⟨k, hkm, fun hb => hb.elim h48 h49, hgood, rfl⟩⟩
  · have hkm' : ¬ (k : Int) < l.length := by omega
    have : k = l.length := by omega
    subst this
    simp (disch := first | omega | (simp only [List.length_append, List.length_cons, List.length_nil]; omega)) only [c37r0, c37r1, c37r2, c37r3, c37r4, c37r5, c37r6, c37r7, c37r8, c37r9, c37r10, c37r11, c37r12, c37l13, c37r14, hkm', fillD, splice0, go_sem, ↓reduceIte, reduceCtorEq, Nat.reduceAdd, Nat.reduceSub, Nat.reducePow, Nat.reduceMul, Nat.reduceEqDiff, Nat.reduceLT, Nat.reduceLeDiff, Int.reduceToNat, Int.reduceLT, Int.reduceLE, Int.reduceEq, Int.reduceNeg, Int.reduceAdd, Int.reduceSub, Int.reduceMul]
    refine FinOk.all ⟨⟨_, rfl⟩, .inr ⟨hgood, d, rfl, ?_⟩⟩
    have := ho.sl
    simp only [List.append_assoc, List.cons_append, List.nil_append] at this
    exact this

theorem parseRef_fc (h : Heap) (l : List UInt8) (hlen : l.length ≤ 65536) : FC Try.prog 38 [.str (bs l)] h (PRes l h) := by
  have g0 : ¬ (65536 : Int) < l.length := by omega
  refine FC.goes cf38 ?_; simp only [c38]; simp only [List.length_cons, List.length_nil, Nat.reduceAdd, Nat.reduceSub, List.replicate_succ, List.replicate_zero, List.cons_append, List.nil_append]
  simp (disch := first | omega | (simp only [List.length_append, List.length_cons, List.length_nil]; omega)) only [c38r0, c38r1, c38r2, c38r3, c38r4, c38r5, c38r6, c38r7, c38r8, c38r9, c38r10, c38l11, c38r12, g0, go_sem, ↓reduceIte, reduceCtorEq, Nat.reduceAdd, Nat.reduceSub, Nat.reducePow, Nat.reduceMul, Nat.reduceEqDiff, Nat.reduceLT, Nat.reduceLeDiff, Int.reduceToNat, Int.reduceLT, Int.reduceLE, Int.reduceEq, Int.reduceNeg, Int.reduceAdd, Int.reduceSub, Int.reduceMul]
  refine loop_to l.length (fun k st => (∀ j < k, goodB (l.getD j 0)) ∧ ∃ (d : D) (H : Heap), AppSt (h ++ [.box [.int .i64 0, .int .i64 0]]) (i64s (onesT l k)) (onesT l k).length d H ∧ ∃ (j : Nat → D), st = ⟨(.str (bs l) :: j 1 :: .nils :: .ref h.length 0 :: d :: .int .i64 (k : Int) :: j 6 :: j 7 :: j 8 :: j 9 :: j 10 :: j 11 :: j 12 :: j 13 :: j 14 :: j 15 :: j 16 :: j 17 :: j 18 :: j 19 :: j 20 :: j 21 :: j 22 :: j 23 :: j 24 :: j 25 :: j 26 :: j 27 :: j 28 :: j 29 :: j 30 :: j 31 :: j 32 :: j 33 :: j 34 :: j 35 :: j 36 :: j 37 :: j 38 :: j 39 :: j 40 :: []), h ++ .box [.int .i64 0, .int .i64 0] :: H⟩) ⟨fun j hj => absurd hj (by omega), .nils, [], .inl ⟨rfl, rfl, rfl, rfl⟩, junk rfl⟩ ?_
  rintro k st hk ⟨hgood, d, H, ha, j, rfl⟩
  by_cases hkm : k < l.length
  · have hkm' : (k : Int) < l.length := by omega
    have hg := getB hkm
    have e3 : IntKind.i64.wrap ((k : Int) + 1) = ((k + 1 : Nat) : Int) := by rw [w_i64 (by omega) (by omega)]; omega
    have hsu := onesT_succ l k
    have hle := onesT_le l k
    by_cases h48 : l.getD k 0 = 48
    · have e2 : ((l.getD k 0).toNat : Int) = 48 := by rw [h48]; rfl
      have e4 : ¬ ((l.getD k 0).toNat : Int) = 49 := by omega
      have hne : ¬ l.getD k 0 = 49 := by rw [h48]; decide
      simp (disch := first | omega | (simp only [List.length_append, List.length_cons, List.length_nil]; omega)) only [c38r0, c38r1, c38r2, c38r3, c38r4, c38r5, c38r6, c38r7, c38r8, c38r9, c38r10, c38l11, c38r12, hkm', hg, e2, e3, go_sem, ↓reduceIte, reduceCtorEq, Nat.reduceAdd, Nat.reduceSub, Nat.reducePow, Nat.reduceMul, Nat.reduceEqDiff, Nat.reduceLT, Nat.reduceLeDiff, Int.reduceToNat, Int.reduceLT, Int.reduceLE, Int.reduceEq, Int.reduceNeg, Int.reduceAdd, Int.reduceSub, Int.reduceMul]
      rw [if_neg hne, List.append_nil] at hsu
      rw [← hsu] at ha
      refine ⟨hkm, fun j hj => ?_, d, H, ha, junk rfl⟩
      by_cases hjk : j = k
      · subst hjk; exact .inl h48
      · exact hgood j (by omega)
    · have e2 : ¬ ((l.getD k 0).toNat : Int) = 48 := fun e => h48 (UInt8.toNat_inj.1 (by show (l.getD k 0).toNat = 48; omega))
      by_cases h49 : l.getD k 0 = 49
      · have e4 : ((l.getD k 0).toNat : Int) = 49 := by rw [h49]; rfl
        obtain ⟨H', q1, q2⟩ := ha.app (.int .i64 (k : Int)) (by omega) 8 (by omega)
        simp only [List.append_assoc, List.cons_append, List.nil_append, List.length_append, List.length_cons, List.length_nil, Nat.zero_add] at q1 q2
        rw [if_pos h49] at hsu
        rw [← i64s_snoc, ← hsu] at q2
        have hl2 : (onesT l k).length + 1 = (onesT l (k + 1)).length := by rw [hsu, List.length_append]; rfl
        simp (disch := first | omega | (simp only [List.length_append, List.length_cons, List.length_nil]; omega)) only [c38r0, c38r1, c38r2, c38r3, c38r4, c38r5, c38r6, c38r7, c38r8, c38r9, c38r10, c38l11, c38r12, hkm', hg, e2, e4, e3, q1, go_sem, ↓reduceIte, reduceCtorEq, Nat.reduceAdd, Nat.reduceSub, Nat.reducePow, Nat.reduceMul, Nat.reduceEqDiff, Nat.reduceLT, Nat.reduceLeDiff, Int.reduceToNat, Int.reduceLT, Int.reduceLE, Int.reduceEq, Int.reduceNeg, Int.reduceAdd, Int.reduceSub, Int.reduceMul]
        rw [hl2] at q2
        refine ⟨hkm, fun j hj => ?_, _, H', q2, by rw [← hl2]; exact junk rfl⟩
        by_cases hjk : j = k
        · subst hjk; exact .inr h49
        · exact hgood j (by omega)
      · have e4 : ¬ ((l.getD k 0).toNat : Int) = 49 := fun e => h49 (UInt8.toNat_inj.1 (by show (l.getD k 0).toNat = 49; omega))
        simp (disch := first | omega | (simp only [List.length_append, List.length_cons, List.length_nil]; omega)) only [c38r0, c38r1, c38r2, c38r3, c38r4, c38r5, c38r6, c38r7, c38r8, c38r9, c38r10, c38l11, c38r12, hkm', hg, e2, e4, fillD, splice0, go_sem, ↓reduceIte, reduceCtorEq, Nat.reduceAdd, Nat.reduceSub, Nat.reducePow, Nat.reduceMul, Nat.reduceEqDiff, Nat.reduceLT, Nat.reduceLeDiff, Int.reduceToNat, Int.reduceLT, Int.reduceLE, Int.reduceEq, Int.reduceNeg, Int.reduceAdd, Int.reduceSub, Int.reduceMul]
        refine FinOk.all ⟨⟨_, rfl⟩, .inl ⟨k, hkm, fun hb => hb.elim h48 h49, hgood, rfl⟩⟩
  · have hkm' : ¬ (k : Int) < l.length := by omega
    have : k = l.length := by omega
    subst this
    have hle := onesT_le l l.length
    have hs := ha.sl (i64s_length _)
    simp only [List.append_assoc, List.cons_append, List.nil_append] at hs
    have hbx : (h ++ .box [.int .i64 0, .int .i64 0] :: H)[h.length]? = some (.box [.int .i64 0, .int .i64 0]) := by
      rw [List.getElem?_append_right (Nat.le_refl _), Nat.sub_self]; rfl
    simp (disch := first | omega | (simp only [List.length_append, List.length_cons, List.length_nil]; omega)) only [c38r0, c38r1, c38r2, c38r3, c38r4, c38r5, c38r6, c38r7, c38r8, c38r9, c38r10, c38l11, c38r12, hkm', g0, go_sem, ↓reduceIte, reduceCtorEq, Nat.reduceAdd, Nat.reduceSub, Nat.reducePow, Nat.reduceMul, Nat.reduceEqDiff, Nat.reduceLT, Nat.reduceLeDiff, Int.reduceToNat, Int.reduceLT, Int.reduceLE, Int.reduceEq, Int.reduceNeg, Int.reduceAdd, Int.reduceSub, Int.reduceMul]
    refine gfc_of (of_fc _ d l.length (onesT l l.length) hs hlen (by omega) (fun x hx => by have := (onesT_mem.1 hx).1; omega)) ?_
    rintro r h2 ⟨⟨L, rfl⟩, s2⟩
    simp only [List.append_assoc, List.cons_append] at s2
    simp (disch := first | omega | (simp only [List.length_append, List.length_cons, List.length_nil]; omega)) only [List.append_assoc, fillD, splice0, go_sem, ↓reduceIte, reduceCtorEq, Nat.reduceAdd, Nat.reduceSub, Nat.reducePow, Nat.reduceMul, Nat.reduceEqDiff, Nat.reduceLT, Nat.reduceLeDiff, Int.reduceToNat, Int.reduceLT, Int.reduceLE, Int.reduceEq, Int.reduceNeg, Int.reduceAdd, Int.reduceSub, Int.reduceMul]
    exact FinOk.all ⟨⟨_, rfl⟩, .inr ⟨hgood, r, rfl, s2⟩⟩
end Go.Proofs
