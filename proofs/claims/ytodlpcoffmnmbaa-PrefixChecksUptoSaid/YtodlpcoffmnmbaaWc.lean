/-
  Own work. slices.Reverse of bytes; a slice that grows by appends of one.
-/
import Derived.Test.YtodlpcoffmnmbaaW0
namespace Go.Proofs
open Go Go.Ytodlpcoffmnmbaa
set_option linter.unusedVariables false
set_option linter.unusedSimpArgs false
set_option maxRecDepth 10000

/-! ### slices.Reverse[[]byte,byte], params 1 -/
def c92r0 : List AStm := [.op (some 4) none (.mv (.t 0)),
    .op (some 5) none (.len false (.t 4)),
    .op (some 6) none (.bin .sub (.t 5) (.c (.int .i64 1))),
    .op (some 2) none (.mv (.c (.int .i64 0))),
    .op (some 3) none (.mv (.t 6))]
def c92r1 : List AStm := [.op (some 7) none (.mv (.t 2)),
    .op (some 8) none (.mv (.t 3)),
    .op (some 9) none (.bin .lss (.t 7) (.t 8))]
def c92r2 : List AStm := [.op (some 14) none (.mv (.t 0)),
    .op (some 15) none (.mv (.t 2)),
    .op (some 16) none (.mv (.t 0)),
    .op (some 17) none (.mv (.t 3)),
    .op (some 18) none (.mv (.t 0)),
    .op (some 19) none (.mv (.t 3)),
    .op (some 20) none (.ixs 1 (.t 18) (.t 19)),
    .op (some 21) none (.load none (.t 20)),
    .op (some 22) none (.mv (.t 0)),
    .op (some 23) none (.mv (.t 2)),
    .op (some 24) none (.ixs 1 (.t 22) (.t 23)),
    .op (some 25) none (.load none (.t 24)),
    .op (some 26) none (.ixs 1 (.t 14) (.t 15)),
    .op none none (.store 1 (.t 26) (.t 21)),
    .op (some 27) none (.ixs 1 (.t 16) (.t 17)),
    .op none none (.store 1 (.t 27) (.t 25))]
def c92r3 : List AStm := []
def c92r4 : List AStm := [.op (some 10) none (.mv (.t 2)),
    .op (some 11) none (.bin .add (.t 10) (.c (.int .i64 1))),
    .op (some 12) none (.mv (.t 3)),
    .op (some 13) none (.bin .sub (.t 12) (.c (.int .i64 1))),
    .op (some 2) none (.mv (.t 11)),
    .op (some 3) none (.mv (.t 13))]
def c92l5 : AC := .seq (.seq (.reg c92r1) (.cond (.t 9) (.skip) (.exit 0))) (.seq (.block 1 (.dreg c92r2 c92r3)) (.reg c92r4))
def c92 : CF := ⟨.seq (.reg c92r0) (.block 0 (.loop c92l5)), [], 28⟩
theorem cf92 : cfun Try.prog 92 = some c92 := by kernel_rfl



/-- With the first k and the last k of its bytes in each other's places. -/
def swapK (l : List UInt8) (k : Nat) : List UInt8 := (List.range l.length).map fun i => if i < k ∨ l.length - k ≤ i then l.getD (l.length - 1 - i) 0 else l.getD i 0
theorem swapK_len (l : List UInt8) (k : Nat) : (swapK l k).length = l.length := by simp [swapK]
theorem swapK_get (l : List UInt8) (k i : Nat) (h : i < l.length) : (swapK l k).getD i 0 = if i < k ∨ l.length - k ≤ i then l.getD (l.length - 1 - i) 0 else l.getD i 0 := by
  rw [List.getD_eq_getElem?_getD, swapK, List.getElem?_map, List.getElem?_range h]; rfl
theorem getD_put (a : List UInt8) (i : Nat) (x : UInt8) (j : Nat) : (a.set i x).getD j 0 = if i = j ∧ j < a.length then x else a.getD j 0 := by
  rw [List.getD_eq_getElem?_getD, List.getD_eq_getElem?_getD, List.getElem?_set]
  by_cases h : i = j
  · subst h
    by_cases h2 : i < a.length
    · simp [h2]
    · simp [h2]
  · simp [h]
theorem bytes_eq {a b : List UInt8} (hl : a.length = b.length) (h : ∀ i < a.length, a.getD i 0 = b.getD i 0) : a = b := by
  apply List.ext_getElem hl
  intro k h1 h2
  have := h k h1
  rwa [List.getD_eq_getElem?_getD, List.getD_eq_getElem?_getD, List.getElem?_eq_getElem h1, List.getElem?_eq_getElem h2] at this
theorem swapK_0 (l : List UInt8) : swapK l 0 = l := by
  refine bytes_eq (swapK_len _ _) fun i hi => ?_
  rw [swapK_len] at hi
  rw [swapK_get _ _ _ hi, if_neg (by omega)]
theorem swapK_succ (l : List UInt8) (k : Nat) (h : 2 * k + 1 < l.length) : ((swapK l k).set k (l.getD (l.length - 1 - k) 0)).set (l.length - 1 - k) (l.getD k 0) = swapK l (k + 1) := by
  refine bytes_eq (by simp [swapK_len]) fun i hi => ?_
  simp only [List.length_set, swapK_len] at hi
  rw [getD_put, getD_put, swapK_get _ _ _ hi, swapK_get _ _ _ hi]
  simp only [List.length_set, swapK_len]
  by_cases e1 : l.length - 1 - k = i
  · rw [if_pos ⟨e1, hi⟩, if_pos (by omega)]
    congr 1; omega
  · rw [if_neg (by omega)]
    by_cases e2 : k = i
    · subst e2; rw [if_pos ⟨rfl, hi⟩, if_pos (by omega)]
    · rw [if_neg (by omega)]
      by_cases e3 : i < k ∨ l.length - k ≤ i
      · rw [if_pos e3, if_pos (by omega)]
      · rw [if_neg e3, if_neg (by omega)]
theorem swapK_all (l : List UInt8) (k : Nat) (h : l.length ≤ 2 * k + 1) : swapK l k = l.reverse := by
  refine bytes_eq (by simp [swapK_len]) fun i hi => ?_
  rw [swapK_len] at hi
  have e : l.reverse.getD i 0 = l.getD (l.length - 1 - i) 0 := by
    rw [List.getD_eq_getElem?_getD, List.getElem?_reverse hi, List.getD_eq_getElem?_getD]
  rw [swapK_get _ _ _ hi, e]
  split
  · rfl
  · congr 1; omega
theorem ofBytes_putD (l : List UInt8) (k : Nat) (b : UInt8) : (ofBytes l).set k (.int .u8 (b.toNat : Int)) = ofBytes (l.set k b) := by
  simp [ofBytes, List.map_set]
theorem byteAt {l : List UInt8} {k : Nat} (h : k < l.length) : (List.drop k (ofBytes l))[0]? = some (.int .u8 ((l.getD k 0).toNat : Int)) := by
  rw [List.getElem?_drop, Nat.add_zero, ofBytes_get, List.getElem?_eq_getElem h, List.getD_eq_getElem?_getD, List.getElem?_eq_getElem h]; rfl
theorem reverse_fc (h : Heap) (r : Nat) (l : List UInt8) (hb : h[r]? = some (.grow 1 (ofBytes l) l.length)) (hl : l.length < 1000000) :
    FC Try.prog 92 [.own r l.length] h fun d h' => d = .tup [] ∧ h' = h.set r (.grow 1 (ofBytes l.reverse) l.length) := by
  have hr : r < h.length := (List.getElem?_eq_some_iff.1 hb).1
  have e1 : IntKind.i64.wrap ((l.length : Int) - 1) = (l.length : Int) - 1 := w_i64 (by omega) (by omega)
  refine FC.goes cf92 ?_; simp only [c92]; simp only [List.length_cons, List.length_nil, Nat.reduceAdd, Nat.reduceSub, List.replicate_succ, List.replicate_zero, List.cons_append, List.nil_append]
  simp (disch := first | omega | (simp only [List.length_append, List.length_cons, List.length_nil]; omega)) only [c92r0, c92r1, c92r2, c92r3, c92r4, c92l5, hb, e1, go_sem, fill_c, ↓reduceIte, reduceCtorEq, Nat.reduceAdd, Nat.reduceSub, Nat.reducePow, Nat.reduceMul, Nat.reduceEqDiff, Nat.reduceLT, Nat.reduceLeDiff, Int.reduceToNat, Int.reduceLT, Int.reduceLE, Int.reduceEq, Int.reduceNeg, Int.reduceAdd, Int.reduceSub, Int.reduceMul]
  refine loop_to l.length (fun k st => 2 * k ≤ l.length + 1 ∧ ∃ (j : Nat → D), st = ⟨(.own r l.length :: j 1 :: .int .i64 (k : Int) :: .int .i64 ((l.length : Int) - 1 - (k : Int)) :: j 4 :: j 5 :: j 6 :: j 7 :: j 8 :: j 9 :: j 10 :: j 11 :: j 12 :: j 13 :: j 14 :: j 15 :: j 16 :: j 17 :: j 18 :: j 19 :: j 20 :: j 21 :: j 22 :: j 23 :: j 24 :: j 25 :: j 26 :: j 27 :: []), h.set r (.grow 1 (ofBytes (swapK l k)) l.length)⟩) ⟨by omega, by
    rw [swapK_0]
    have : h.set r (.grow 1 (ofBytes l) l.length) = h := by
      apply List.ext_getElem?
      intro i
      rw [List.getElem?_set]
      split
      · rename_i e; subst e; simp [hr]; exact (List.getElem?_eq_some_iff.1 hb).2.symm
      · rfl
    rw [this]; exact junk (by simp)⟩ ?_
  rintro k st hk ⟨hk2, j, rfl⟩
  have hset : ∀ b : Blk, (h.set r b)[r]? = some b := fun b => List.getElem?_set_self hr
  have hss : ∀ b c : Blk, (h.set r b).set r c = h.set r c := fun b c => List.set_set ..
  by_cases hlt : (k : Int) < (l.length : Int) - 1 - (k : Int)
  · have hlt' : 2 * k + 1 < l.length := by omega
    have ej : (l.length : Int) - 1 - (k : Int) = ((l.length - 1 - k : Nat) : Int) := by omega
    have ej1 : ((l.length - 1 - k : Nat) : Int) - 1 = (l.length : Int) - 1 - ((k + 1 : Nat) : Int) := by omega
    rw [ej] at hlt ⊢
    have w1 : IntKind.i64.wrap ((k : Int) + 1) = ((k + 1 : Nat) : Int) := by rw [w_i64 (by omega) (by omega)]; omega
    have w2 : IntKind.i64.wrap (((l.length - 1 - k : Nat) : Int) - 1) = (l.length : Int) - 1 - ((k + 1 : Nat) : Int) := by rw [w_i64 (by omega) (by omega)]; omega
    have hsl := swapK_len l k
    have g1 := byteAt (l := swapK l k) (k := k) (by omega)
    have g2 := byteAt (l := swapK l k) (k := l.length - 1 - k) (by omega)
    rw [swapK_get _ _ _ (by omega), if_neg (by omega)] at g1 g2
    have ol : (ofBytes (swapK l k)).length = l.length := by rw [ofBytes_length, hsl]
    have hs := swapK_succ l k hlt'
    have s1 : ((ofBytes (swapK l k)).set k (.int .u8 ((l.getD (l.length - 1 - k) 0).toNat : Int))).set (l.length - 1 - k) (.int .u8 ((l.getD k 0).toNat : Int)) = ofBytes (swapK l (k + 1)) := by
      rw [ofBytes_putD, ofBytes_putD, hs]
    generalize l.length - 1 - k = jj at *
    simp (disch := first | omega | (simp only [List.length_append, List.length_cons, List.length_nil]; omega)) only [c92r0, c92r1, c92r2, c92r3, c92r4, c92l5, hlt, w1, w2, hset, hss, g1, g2, ol, List.length_set, s1, go_sem, fill_c, ↓reduceIte, reduceCtorEq, Nat.reduceAdd, Nat.reduceSub, Nat.reducePow, Nat.reduceMul, Nat.reduceEqDiff, Nat.reduceLT, Nat.reduceLeDiff, Int.reduceToNat, Int.reduceLT, Int.reduceLE, Int.reduceEq, Int.reduceNeg, Int.reduceAdd, Int.reduceSub, Int.reduceMul]
    refine ⟨by omega, by omega, junk rfl⟩
  · rw [swapK_all l k (by omega)]
    simp (disch := first | omega | (simp only [List.length_append, List.length_cons, List.length_nil]; omega)) only [c92r0, c92r1, c92r2, c92r3, c92r4, c92l5, hlt, go_sem, fill_c, ↓reduceIte, reduceCtorEq, Nat.reduceAdd, Nat.reduceSub, Nat.reducePow, Nat.reduceMul, Nat.reduceEqDiff, Nat.reduceLT, Nat.reduceLeDiff, Int.reduceToNat, Int.reduceLT, Int.reduceLE, Int.reduceEq, Int.reduceNeg, Int.reduceAdd, Int.reduceSub, Int.reduceMul]
    exact FinOk.all ⟨rfl, rfl⟩

/-- A slice that grows by appends of one, among the blocks M that lie from the place b on: nil at first. -/
def OutAt (b : Nat) (cs : List D) (n : Nat) (d : D) (M : Heap) : Prop :=
  (n = 0 ∧ cs = [] ∧ d = .nils) ∨ (0 < n ∧ ∃ s, d = .own (b + s) n ∧ M[s]? = some (.grow 1 cs n))
theorem OutAt.more {b n : Nat} {cs : List D} {d : D} {M : Heap} (ho : OutAt b cs n d M) (L : Heap) : OutAt b cs n d (M ++ L) := by
  rcases ho with ho | ⟨h0, s, h1, h2⟩
  · exact .inl ho
  · exact .inr ⟨h0, s, h1, by rw [List.getElem?_append_left (List.getElem?_eq_some_iff.1 h2).1]; exact h2⟩
theorem OutAt.app {h M : Heap} {cs : List D} {n : Nat} {d : D} (ha : OutAt h.length cs n d M) (x : D) (hn : n ≤ 1000000000) (bytes : Nat) (hb : bytes ≤ 65536) :
    ∃ d' M', appendD (h ++ (M ++ [.grow 1 [x] 1])) 1 bytes d [x] 1 = some (d', h ++ M') ∧ OutAt h.length (cs ++ [x]) (n + 1) d' M' ∧ ∀ (p : Nat) (c : List D), M[p]? = some (Blk.box c) → M'[p]? = some (Blk.box c) := by
  have low : ∀ {L : Heap} {p : Nat} {b : Blk}, M[p]? = some b → (M ++ L)[p]? = some b := fun hp => by
    rw [List.getElem?_append_left (List.getElem?_eq_some_iff.1 hp).1]; exact hp
  rcases ha with ⟨rfl, rfl, rfl⟩ | ⟨h0, s, rfl, hs⟩
  · refine ⟨.own (h.length + (M.length + 1)) 1, M ++ [Blk.grow 1 [x] 1, Blk.grow 1 [x] 1], ?_, .inr ⟨by omega, _, rfl, ?_⟩, fun p c hp => low hp⟩
    · rw [ap_nils, if_neg (by omega), if_pos ⟨by omega, hb⟩]
      simp
    · rw [List.getElem?_append_right (by omega), Nat.add_sub_cancel_left]; rfl
  · have hs2 := low (L := [Blk.grow 1 [x] 1]) hs
    have hsl := (List.getElem?_eq_some_iff.1 hs2).1
    refine ⟨.own (h.length + s) (n + 1), (M ++ [Blk.grow 1 [x] 1]).set s (.grow 1 (cs ++ [x]) (n + 1)), ?_, .inr ⟨by omega, _, rfl, List.getElem?_set_self hsl⟩, fun p c hp => ?_⟩
    · have hg : (h ++ (M ++ [.grow 1 [x] 1]))[h.length + s]? = some (.grow 1 cs n) := by
        rw [List.getElem?_append_right (by omega), Nat.add_sub_cancel_left]; exact hs2
      rw [ap_own, hg]
      simp only [growW_grow, Option.bind_some]
      rw [if_pos ⟨trivial, trivial, by omega, hb⟩]
      rw [List.set_append_right _ _ (by omega), Nat.add_sub_cancel_left]
    · have hne : ¬ s = p := by
        rintro rfl
        rw [hs] at hp; cases hp
      rw [List.getElem?_set_ne hne]
      exact low hp
end Go.Proofs
