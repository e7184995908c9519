import Derived.Test.YtecmopdncgekhaaMp
import Derived.Test.YtecmopdncgekhaaMb
/-
  Own work. Slices of prefixes; the document's Check, Find, Longest of layer 19.
-/
namespace Go.Proofs
open Go Go.Ytecmopdncgekhaa
set_option linter.unusedVariables false
set_option linter.unusedSimpArgs false
set_option maxRecDepth 10000

/-! ### weighbridge/weighbridgeref19.Check, params 1 -/
def c7r0 : List AStm := [.op (some 2) none (.alloc [(.int .i64 0), (.int .i64 0)])]
def c7r1 : List AStm := [.op (some 5) none (.mv (.t 0)),
    .op (some 6) none (.len false (.t 5)),
    .op (some 7) none (.bin .gtr (.t 6) (.c (.int .i64 256)))]
def c7r2 : List AStm := [.op (some 8) none (.build [(.int .i64 0), (.int .i64 0)] [(0, 1, (.c (.int .i64 7))), (1, 1, (.c (.int .i64 256)))]),
    .op none none (.store 2 (.t 2) (.t 8))]
def c7r3 : List AStm := [.op (some 3) none (.mv (.c (.int .i64 0)))]
def c7r4 : List AStm := [.op (some 9) none (.mv (.t 3)),
    .op (some 10) none (.mv (.t 0)),
    .op (some 11) none (.len false (.t 10)),
    .op (some 12) none (.bin .lss (.t 9) (.t 11))]
def c7r5 : List AStm := [.op (some 15) none (.mv (.t 0)),
    .op (some 16) none (.mv (.t 3)),
    .op (some 17) none (.ixs 18 (.t 15) (.t 16)),
    .op (some 18) none (.load (some 18) (.t 17)),
    .call (some 19) none (.c (.fn (.func 23) [] [])) [(.t 18)],
    .op (some 4) none (.mv (.t 19))]
def c7r6 : List AStm := [.op (some 20) none (.mv (.t 4)),
    .op (some 21) none (.bin .neq (.t 20) (.c (.int .i64 0)))]
def c7r7 : List AStm := [.op (some 22) none (.mv (.t 4)),
    .op (some 23) none (.mv (.t 3)),
    .op (some 24) none (.build [(.int .i64 0), (.int .i64 0)] [(0, 1, (.t 22)), (1, 1, (.t 23))]),
    .op none none (.store 2 (.t 2) (.t 24))]
def c7r8 : List AStm := [.op (some 13) none (.mv (.t 3)),
    .op (some 14) none (.bin .add (.t 13) (.c (.int .i64 1))),
    .op (some 3) none (.mv (.t 14))]
def c7l9 : AC := .seq (.seq (.reg c7r4) (.cond (.t 12) (.skip) (.exit 0))) (.seq (.block 1 (.seq (.reg c7r5) (.seq (.reg c7r6) (.cond (.t 21) (.seq (.reg c7r7) (.ret)) (.skip))))) (.reg c7r8))
def c7r10 : List AStm := [.op (some 25) none (.build [(.int .i64 0), (.int .i64 0)] []),
    .op none none (.store 2 (.t 2) (.t 25))]
def c7 : CF := ⟨.seq (.reg c7r0) (.seq (.seq (.reg c7r1) (.cond (.t 7) (.seq (.reg c7r2) (.ret)) (.skip))) (.seq (.seq (.reg c7r3) (.block 0 (.loop c7l9))) (.seq (.reg c7r10) (.ret)))), [.cell 2 (some 2)], 26⟩
theorem cf7 : cfun Try.prog 7 = some c7 := by kernel_rfl

/-! ### weighbridge/weighbridgeref19.Find, params 3 -/
def c12r0 : List AStm := [.op (some 5) none (.box (.t 2)),
    .op (some 6) none (.mv (.c .nils))]
def c12r1 : List AStm := [.op (some 7) none (.mv (.c .nils))]
def c12r2 : List AStm := [.op (some 8) none (.mv (.c (.int .i64 0)))]
def c12r3 : List AStm := [.op (some 9) none (.mv (.t 8)),
    .op (some 10) none (.mv (.t 0)),
    .op (some 11) none (.len false (.t 10)),
    .op (some 12) none (.bin .lss (.t 9) (.t 11))]
def c12r4 : List AStm := []
def c12r5 : List AStm := [.op (some 15) none (.mv (.t 0)),
    .op (some 16) none (.mv (.t 8)),
    .op (some 17) none (.ixs 18 (.t 15) (.t 16)),
    .op (some 18) none (.load (some 18) (.t 17)),
    .op (some 19) none (.mv (.t 1)),
    .op (some 20) none (.load (some 16) (.t 5)),
    .callG (some 21) none (.c (.fn (.func 26) [] [])) [(.t 18), (.t 19), (.t 20)]]
def c12r6 : List AStm := [.op (some 22) none (.mv (.t 7)),
    .op (some 23) none (.mv (.t 8)),
    .op (some 24) none (.bslice 1 [(.int .i64 0)] 1 [(0, 1, (.t 23))]),
    .op (some 25) none (.append false 1 8 (.t 22) (.t 24)),
    .op (some 7) none (.mv (.t 25))]
def c12r7 : List AStm := [.op (some 13) none (.mv (.t 8)),
    .op (some 14) none (.bin .add (.t 13) (.c (.int .i64 1))),
    .op (some 8) none (.mv (.t 14))]
def c12l8 : AC := .seq (.seq (.reg c12r3) (.cond (.t 12) (.skip) (.exit 0))) (.seq (.block 1 (.seq (.dreg c12r4 c12r5) (.cond (.t 21) (.reg c12r6) (.skip)))) (.reg c12r7))
def c12r9 : List AStm := [.op (some 26) none (.mv (.t 0)),
    .op (some 27) none (.len false (.t 26)),
    .op (some 28) none (.mv (.t 7)),
    .call (some 29) none (.c (.fn (.func 27) [] [])) [(.t 27), (.t 28)],
    .op (some 6) none (.mv (.t 29))]
def c12 : CF := ⟨.seq (.reg c12r0) (.seq (.reg c12r1) (.seq (.seq (.reg c12r2) (.block 0 (.loop c12l8))) (.seq (.reg c12r9) (.ret)))), [.tmp 6], 30⟩
theorem cf12 : cfun Try.prog 12 = some c12 := by kernel_rfl

/-! ### weighbridge/weighbridgeref19.Longest, params 3 -/
def c14r0 : List AStm := [.op (some 5) none (.box (.t 2)),
    .op (some 6) none (.mv (.c (.int .i64 0)))]
def c14r1 : List AStm := [.op (some 7) none (.mv (.c (.int .i64 (-1))))]
def c14r2 : List AStm := [.op (some 8) none (.mv (.c (.int .i64 0)))]
def c14r3 : List AStm := [.op (some 9) none (.mv (.t 8)),
    .op (some 10) none (.mv (.t 0)),
    .op (some 11) none (.len false (.t 10)),
    .op (some 12) none (.bin .lss (.t 9) (.t 11))]
def c14r4 : List AStm := []
def c14r5 : List AStm := [.op (some 15) none (.mv (.t 0)),
    .op (some 16) none (.mv (.t 8)),
    .op (some 17) none (.ixs 18 (.t 15) (.t 16)),
    .op (some 18) none (.load (some 18) (.t 17)),
    .op (some 19) none (.mv (.t 1)),
    .op (some 20) none (.load (some 16) (.t 5)),
    .callG (some 21) none (.c (.fn (.func 26) [] [])) [(.t 18), (.t 19), (.t 20)],
    .op (some 22) none (.mv (.t 21)),
    .op (some 23) (some (22, true)) (.mv (.t 7)),
    .op (some 24) (some (22, true)) (.bin .lss (.t 23) (.c (.int .i64 0))),
    .op (some 25) (some (22, true)) (.mv (.t 24)),
    .op (some 26) (some (25, false)) (.mv (.t 0)),
    .op (some 27) (some (25, false)) (.mv (.t 8)),
    .op (some 28) (some (25, false)) (.ixs 18 (.t 26) (.t 27)),
    .op (some 29) (some (25, false)) (.faddr 17 (.t 28)),
    .op (some 30) (some (25, false)) (.load none (.t 29)),
    .op (some 31) (some (25, false)) (.mv (.t 0)),
    .op (some 32) (some (25, false)) (.mv (.t 7)),
    .op (some 33) (some (25, false)) (.ixs 18 (.t 31) (.t 32)),
    .op (some 34) (some (25, false)) (.faddr 17 (.t 33)),
    .op (some 35) (some (25, false)) (.load none (.t 34)),
    .op (some 36) (some (25, false)) (.bin .gtr (.t 30) (.t 35)),
    .op (some 37) (some (22, true)) (.pick (.t 25) (.c (.bool true)) (.t 36)),
    .op (some 38) none (.pick (.t 22) (.t 37) (.c (.bool false)))]
def c14r6 : List AStm := [.op (some 39) none (.mv (.t 8)),
    .op (some 7) none (.mv (.t 39))]
def c14r7 : List AStm := [.op (some 13) none (.mv (.t 8)),
    .op (some 14) none (.bin .add (.t 13) (.c (.int .i64 1))),
    .op (some 8) none (.mv (.t 14))]
def c14l8 : AC := .seq (.seq (.reg c14r3) (.cond (.t 12) (.skip) (.exit 0))) (.seq (.block 1 (.seq (.dreg c14r4 c14r5) (.cond (.t 38) (.reg c14r6) (.skip)))) (.reg c14r7))
def c14r9 : List AStm := [.op (some 40) none (.mv (.t 7)),
    .op (some 6) none (.mv (.t 40))]
def c14 : CF := ⟨.seq (.reg c14r0) (.seq (.reg c14r1) (.seq (.seq (.reg c14r2) (.block 0 (.loop c14l8))) (.seq (.reg c14r9) (.ret)))), [.tmp 6], 41⟩
theorem cf14 : cfun Try.prog 14 = some c14 := by kernel_rfl

/-! ### weighbridge/trie.root, params 1 -/
def c35r0 : List AStm := [.op (some 2) none (.mv (.c (.int .i64 0))),
    .op (some 3) none (.mv (.c (.bool false)))]
def c35r1 : List AStm := [.op (some 4) none (.mv (.t 0))]
def c35r2 : List AStm := [.op (some 6) none (.bin .eql (.t 4) (.c (.int .i64 4))),
    .op (some 5) none (.mv (.t 6))]
def c35r3 : List AStm := [.op (some 2) none (.mv (.c (.int .i64 0))),
    .op (some 3) none (.mv (.c (.bool true)))]
def c35r4 : List AStm := [.op (some 8) none (.bin .eql (.t 4) (.c (.int .i64 6))),
    .op (some 7) none (.mv (.t 8))]
def c35r5 : List AStm := [.op (some 2) none (.mv (.c (.int .i64 1))),
    .op (some 3) none (.mv (.c (.bool true)))]
def c35r6 : List AStm := [.op (some 2) none (.mv (.c (.int .i64 0))),
    .op (some 3) none (.mv (.c (.bool false)))]
def c35 : CF := ⟨.seq (.reg c35r0) (.seq (.seq (.reg c35r1) (.block 0 (.seq (.reg c35r2) (.cond (.t 5) (.seq (.reg c35r3) (.ret)) (.seq (.reg c35r4) (.cond (.t 7) (.seq (.reg c35r5) (.ret)) (.skip))))))) (.seq (.reg c35r6) (.ret))), [.tmp 2, .tmp 3], 9⟩
theorem cf35 : cfun Try.prog 35 = some c35 := by kernel_rfl

/-! ### weighbridge/trie.bit, params 2 -/
def c37r0 : List AStm := [.op (some 2) none (.box (.t 0)),
    .op (some 4) none (.mv (.c (.int .i64 0)))]
def c37r1 : List AStm := [.op (some 5) none (.mv (.t 1)),
    .op (some 6) none (.bin .shr (.t 5) (.c (.int .u64 3))),
    .op (some 7) none (.ixa 16 1 (.t 2) (.t 6)),
    .op (some 8) none (.load none (.t 7)),
    .op (some 9) none (.mv (.t 1)),
    .op (some 10) none (.bin .and (.t 9) (.c (.int .i64 7))),
    .op (some 11) none (.bin .sub (.c (.int .i64 7)) (.t 10)),
    .op (some 12) none (.conv .u64 (.t 11)),
    .op (some 13) none (.bin .shr (.t 8) (.t 12)),
    .op (some 14) none (.conv .i64 (.t 13)),
    .op (some 15) none (.bin .and (.t 14) (.c (.int .i64 1))),
    .op (some 4) none (.mv (.t 15))]
def c37 : CF := ⟨.seq (.reg c37r0) (.seq (.reg c37r1) (.ret)), [.tmp 4], 16⟩
theorem cf37 : cfun Try.prog 37 = some c37 := by kernel_rfl



structure Pf where
  v : Int
  a : List UInt8
  n : Int
def Pf.cells (p : Pf) : List D := .int .i64 p.v :: (ofBytes p.a ++ [.int .i64 p.n])
def pfs (l : List Pf) : List D := l.flatMap Pf.cells
def pfAt (l : List Pf) (i : Nat) : Pf := l.getD i ⟨0, zeros 16, 0⟩
def Addrs (l : List Pf) : Prop := ∀ p ∈ l, p.a.length = 16
theorem Addrs.at {l : List Pf} (h : Addrs l) (i : Nat) : (pfAt l i).a.length = 16 := by
  unfold pfAt
  rw [List.getD_eq_getElem?_getD]
  cases e : l[i]? with
  | none => simp [zeros]
  | some p => exact h p (List.mem_of_getElem? e)
theorem Pf.cells_length {p : Pf} (h : p.a.length = 16) : p.cells.length = 18 := by
  simp [Pf.cells, ofBytes_length, h]
theorem pfs_get : ∀ {l : List Pf} {i x : Nat}, Addrs l → i < l.length → x < 18 → (pfs l)[i * 18 + x]? = (pfAt l i).cells[x]?
  | p :: l, 0, x, h, _, hx => by
    have hp := Pf.cells_length (h p (by simp))
    rw [pfs, List.flatMap_cons, List.getElem?_append_left (by omega)]
    simp [pfAt]
  | p :: l, i + 1, x, h, hi, hx => by
    have hp := Pf.cells_length (h p (by simp))
    have ih := pfs_get (l := l) (i := i) (x := x) (fun q hq => h q (by simp [hq])) (by simpa using hi) hx
    rw [pfs, List.flatMap_cons, List.getElem?_append_right (by omega), hp, show (i + 1) * 18 + x - 18 = i * 18 + x by omega]
    unfold pfs at ih
    rw [ih]
    rfl
theorem fa_of {h : Heap} {p : D} {cs : List D} (hp : ptrCells h p = some cs) (k : Nat) : ∃ q, fieldAddr h k p = some q ∧ ptrCells h q = some (cs.drop k) := by
  cases p with
  | ref r o =>
    simp only [ptrCells] at hp
    simp only [fieldAddr]
    split at hp
    all_goals first | (cases hp; done) | skip
    all_goals
      rename_i xs hb
      simp only [Option.some.injEq] at hp
      subst hp
      rw [hb]
      exact ⟨_, rfl, by simp [ptrCells, hb, List.drop_drop]⟩
  | eref r n o =>
    simp only [ptrCells] at hp
    simp only [fieldAddr]
    split at hp
    all_goals first | (cases hp; done) | skip
    all_goals
      rename_i hb
      split at hp
      · rename_i hn
        simp only [Option.some.injEq] at hp
        subst hp
        subst hn
        rw [hb]
        exact ⟨.eref r n (o + k), by simp, by simp [ptrCells, hb, List.drop_drop]⟩
      · cases hp
  | fptr xs =>
    simp only [ptrCells, Option.some.injEq] at hp
    subst hp
    exact ⟨_, rfl, by simp [ptrCells]⟩
  | _ => simp [ptrCells] at hp
theorem pf_elem {h : Heap} {d : D} {l : List Pf} (s : SlOf h 18 d (pfs l) l.length) (ha : Addrs l) {i : Nat} (hi : i < l.length) :
    ∃ p cs, elemAddr h 18 d (.int .i64 (i : Int)) = some p ∧ ptrCells h p = some cs ∧ cs.take 18 = (pfAt l i).cells ∧ 18 ≤ cs.length := by
  obtain ⟨p, cs, e1, e2, e3⟩ := s.elem (k := .i64) (i := (i : Int)) (by omega) (by omega)
  have hp := Pf.cells_length (ha.at i)
  have e4 : ∀ x, x < 18 → cs[x]? = (pfAt l i).cells[x]? := fun x hx => by
    rw [e3 x hx, show ((i : Int).toNat * 18 + x) = i * 18 + x by omega, pfs_get ha hi hx]
  have hl : 18 ≤ cs.length := by
    have := e4 17 (by omega)
    rcases Nat.lt_or_ge 17 cs.length with g | g
    · omega
    · rw [List.getElem?_eq_none g] at this
      have := List.getElem?_eq_none_iff.1 this.symm
      omega
  refine ⟨p, cs, e1, e2, ?_, hl⟩
  apply List.ext_getElem?
  intro x
  rw [List.getElem?_take]
  split
  · exact e4 x (by assumption)
  · rw [List.getElem?_eq_none (by omega)]
theorem Pf.prefD_eq (p : Pf) : D.agg p.cells = prefD p.v p.a p.n := rfl

def Pf.chk (p : Pf) : Int := checkF p.v p.a p.n
/-- What is wrong with prefixes. -/
def chkPs (l : List Pf) : Int × Int :=
  if 256 < l.length then (7, 256) else
    match (List.range l.length).find? (fun i => decide ((pfAt l i).chk ≠ 0)) with
    | some i => ((pfAt l i).chk, (i : Int))
    | none => (0, 0)
theorem chkPs_bad {l : List Pf} (h2 : ¬ 256 < l.length) {k : Nat} (hk : k < l.length) (hb : (pfAt l k).chk ≠ 0) (hp : ∀ j < k, (pfAt l j).chk = 0) : chkPs l = ((pfAt l k).chk, (k : Int)) := by
  unfold chkPs
  rw [if_neg h2]
  have : (List.range l.length).find? (fun i => decide ((pfAt l i).chk ≠ 0)) = some k := by
    rw [List.find?_range_eq_some]
    exact ⟨by simpa using hb, by simpa using hk, fun j hj => by simpa using hp j hj⟩
  rw [this]
theorem chkPs_good {l : List Pf} (h2 : ¬ 256 < l.length) (hp : ∀ j < l.length, (pfAt l j).chk = 0) : chkPs l = (0, 0) := by
  unfold chkPs
  rw [if_neg h2]
  have : (List.range l.length).find? (fun i => decide ((pfAt l i).chk ≠ 0)) = none := by
    rw [List.find?_eq_none]
    intro j hj
    simpa using hp j (by simpa using hj)
  rw [this]
theorem check19_fc (h : Heap) (lD : D) (l : List Pf) (s : SlOf h 18 lD (pfs l) l.length) (ha : Addrs l) (hlen : l.length ≤ 1048576) :
    FC Try.prog 7 [lD] h fun d h' => d = .agg [.int .i64 (chkPs l).1, .int .i64 (chkPs l).2] ∧ h' = h := by
  refine FC.goes cf7 ?_; simp only [c7]; simp only [List.length_cons, List.length_nil, Nat.reduceAdd, Nat.reduceSub, List.replicate_succ, List.replicate_zero, List.cons_append, List.nil_append]
  have s' := s.low [.box [.int .i64 0, .int .i64 0]]
  by_cases h2 : (256 : Int) < l.length
  · have he : chkPs l = (7, 256) := by
      unfold chkPs
      rw [if_pos (by omega)]
    rw [he]
    simp (disch := first | omega | (simp only [List.length_append, List.length_cons, List.length_nil]; omega)) only [c7r0, c7r1, c7r2, c7r3, c7r4, c7r5, c7r6, c7r7, c7r8, c7l9, c7r10, h2, s'.lend, s'.sort, fillD, splice0, go_sem, ↓reduceIte, reduceCtorEq, Nat.reduceAdd, Nat.reduceSub, Nat.reducePow, Nat.reduceMul, Nat.reduceEqDiff, Nat.reduceLT, Nat.reduceLeDiff, Int.reduceToNat, Int.reduceLT, Int.reduceLE, Int.reduceEq, Int.reduceNeg, Int.reduceAdd, Int.reduceSub, Int.reduceMul]
    exact FinOk.drop (.inl rfl) (by simp [underL, underD]) ⟨rfl, rfl⟩
  · have h2' : ¬ 256 < l.length := by omega
    simp (disch := first | omega | (simp only [List.length_append, List.length_cons, List.length_nil]; omega)) only [c7r0, c7r1, c7r2, c7r3, c7r4, c7r5, c7r6, c7r7, c7r8, c7l9, c7r10, h2, s'.lend, s'.sort, go_sem, ↓reduceIte, reduceCtorEq, Nat.reduceAdd, Nat.reduceSub, Nat.reducePow, Nat.reduceMul, Nat.reduceEqDiff, Nat.reduceLT, Nat.reduceLeDiff, Int.reduceToNat, Int.reduceLT, Int.reduceLE, Int.reduceEq, Int.reduceNeg, Int.reduceAdd, Int.reduceSub, Int.reduceMul]
    refine loop_to l.length (fun k st => (∀ j < k, (pfAt l j).chk = 0) ∧ ∃ (j : Nat → D), st = ⟨(lD :: j 1 :: .ref h.length 0 :: .int .i64 (k : Int) :: j 4 :: j 5 :: j 6 :: j 7 :: j 8 :: j 9 :: j 10 :: j 11 :: j 12 :: j 13 :: j 14 :: j 15 :: j 16 :: j 17 :: j 18 :: j 19 :: j 20 :: j 21 :: j 22 :: j 23 :: j 24 :: j 25 :: []), h ++ [.box [.int .i64 0, .int .i64 0]]⟩) ⟨fun j hj => absurd hj (by omega), junk rfl⟩ ?_
    rintro k st hk ⟨hp, j, rfl⟩
    by_cases hkn : k < l.length
    · have hkn' : (k : Int) < l.length := by omega
      obtain ⟨p, cs, e1, e2, e3, e4⟩ := pf_elem s' ha hkn
      have e5 : IntKind.i64.wrap ((k : Int) + 1) = ((k + 1 : Nat) : Int) := by rw [w_i64 (by omega) (by omega)]; omega
      simp (disch := first | omega | (simp only [List.length_append, List.length_cons, List.length_nil]; omega)) only [c7r0, c7r1, c7r2, c7r3, c7r4, c7r5, c7r6, c7r7, c7r8, c7l9, c7r10, hkn', s'.lend, s'.sort, e1, e2, e3, e4, go_sem, ↓reduceIte, reduceCtorEq, Nat.reduceAdd, Nat.reduceSub, Nat.reducePow, Nat.reduceMul, Nat.reduceEqDiff, Nat.reduceLT, Nat.reduceLeDiff, Int.reduceToNat, Int.reduceLT, Int.reduceLE, Int.reduceEq, Int.reduceNeg, Int.reduceAdd, Int.reduceSub, Int.reduceMul]
      refine gfc_of (rcheck_fc _ (pfAt l k).v (pfAt l k).n (pfAt l k).a (ha.at k)) ?_
      rintro d h' ⟨rfl, e⟩
      rw [e]
      change gs _ _ _ _ ⟨setD _ _ (.int .i64 (pfAt l k).chk), _⟩
      by_cases hb : (pfAt l k).chk = 0
      · simp (disch := first | omega | (simp only [List.length_append, List.length_cons, List.length_nil]; omega)) only [hb, e5, go_sem, ↓reduceIte, reduceCtorEq, Nat.reduceAdd, Nat.reduceSub, Nat.reducePow, Nat.reduceMul, Nat.reduceEqDiff, Nat.reduceLT, Nat.reduceLeDiff, Int.reduceToNat, Int.reduceLT, Int.reduceLE, Int.reduceEq, Int.reduceNeg, Int.reduceAdd, Int.reduceSub, Int.reduceMul]
        refine ⟨hkn, fun j hj => ?_, junk rfl⟩
        by_cases hjk : j = k
        · subst hjk; exact hb
        · exact hp j (by omega)
      · have he := chkPs_bad h2' hkn hb hp
        rw [he]
        simp (disch := first | omega | (simp only [List.length_append, List.length_cons, List.length_nil]; omega)) only [hb, fillD, splice0, go_sem, ↓reduceIte, reduceCtorEq, Nat.reduceAdd, Nat.reduceSub, Nat.reducePow, Nat.reduceMul, Nat.reduceEqDiff, Nat.reduceLT, Nat.reduceLeDiff, Int.reduceToNat, Int.reduceLT, Int.reduceLE, Int.reduceEq, Int.reduceNeg, Int.reduceAdd, Int.reduceSub, Int.reduceMul]
        exact FinOk.drop (.inl rfl) (by simp [underL, underD]) ⟨rfl, rfl⟩
    · have hkn' : ¬ (k : Int) < l.length := by omega
      have : k = l.length := by omega
      subst this
      have he := chkPs_good h2' hp
      rw [he]
      simp (disch := first | omega | (simp only [List.length_append, List.length_cons, List.length_nil]; omega)) only [c7r0, c7r1, c7r2, c7r3, c7r4, c7r5, c7r6, c7r7, c7r8, c7l9, c7r10, hkn', s'.lend, s'.sort, fillD, splice0, go_sem, ↓reduceIte, reduceCtorEq, Nat.reduceAdd, Nat.reduceSub, Nat.reducePow, Nat.reduceMul, Nat.reduceEqDiff, Nat.reduceLT, Nat.reduceLeDiff, Int.reduceToNat, Int.reduceLT, Int.reduceLE, Int.reduceEq, Int.reduceNeg, Int.reduceAdd, Int.reduceSub, Int.reduceMul]
      exact FinOk.drop (.inl rfl) (by simp [underL, underD]) ⟨rfl, rfl⟩

/-! ### Rows of those that have it -/
def idxB (p : Nat → Bool) (k : Nat) : List Nat := (List.range k).filter p
theorem idxB_succ (p : Nat → Bool) (k : Nat) : idxB p (k + 1) = idxB p k ++ if p k then [k] else [] := by
  unfold idxB
  rw [List.range_succ, List.filter_append]
  congr 1
  cases h : p k <;> simp only [List.filter_cons, h, List.filter_nil] <;> rfl
theorem idxB_mem {p : Nat → Bool} {k x : Nat} : x ∈ idxB p k ↔ x < k ∧ p x = true := by
  simp [idxB, List.mem_filter, List.mem_range]
theorem idxB_le (p : Nat → Bool) (k : Nat) : (idxB p k).length ≤ k := by
  have := List.length_filter_le p (List.range k)
  simpa [idxB] using this
def hasAt (l : List Pf) (v : Int) (a : List UInt8) (i : Nat) : Bool := hasF (pfAt l i).v (pfAt l i).a (pfAt l i).n v a
/-- Which prefixes an address has. -/
def find19 (l : List Pf) (v : Int) (a : List UInt8) : List Nat := putL ((l.length + 63) / 64) (idxB (hasAt l v a) l.length)
theorem find19_fc (h : Heap) (lD : D) (l : List Pf) (s : SlOf h 18 lD (pfs l) l.length) (ha : Addrs l) (hlen : l.length ≤ 256) (v : Int) (a : List UInt8) (hal : a.length = 16) :
    FC Try.prog 12 [lD, .int .i64 v, .agg (ofBytes a)] h (Made h (find19 l v a)) := by
  have hal2 : (ofBytes a).length = 16 := by rw [ofBytes_length, hal]
  have p7 : List.take 16 (ofBytes a) = ofBytes a := List.take_of_length_le (by omega)
  refine FC.goes cf12 ?_; simp only [c12]; simp only [List.length_cons, List.length_nil, Nat.reduceAdd, Nat.reduceSub, List.replicate_succ, List.replicate_zero, List.cons_append, List.nil_append]
  simp (disch := first | omega | (simp only [List.length_append, List.length_cons, List.length_nil]; omega)) only [c12r0, c12r1, c12r2, c12r3, c12r4, c12r5, c12r6, c12r7, c12l8, c12r9, go_sem, ↓reduceIte, reduceCtorEq, Nat.reduceAdd, Nat.reduceSub, Nat.reducePow, Nat.reduceMul, Nat.reduceEqDiff, Nat.reduceLT, Nat.reduceLeDiff, Int.reduceToNat, Int.reduceLT, Int.reduceLE, Int.reduceEq, Int.reduceNeg, Int.reduceAdd, Int.reduceSub, Int.reduceMul]
  have E0 : Ext h (h ++ [.box (ofBytes a)]) := ⟨_, rfl⟩
  have bA := last_get h (.box (ofBytes a))
  have s := SlOf.ext s E0
  generalize h ++ [.box (ofBytes a)] = h1 at *
  generalize h.length = ra at *
  refine loop_to l.length (fun k st => ∃ (d : D) (H : Heap), AppSt h1 (i64s (idxB (hasAt l v a) k)) (idxB (hasAt l v a) k).length d H ∧ ∃ (j : Nat → D), st = ⟨(lD :: .int .i64 v :: j 2 :: j 3 :: j 4 :: .ref ra 0 :: j 6 :: d :: .int .i64 (k : Int) :: j 9 :: j 10 :: j 11 :: j 12 :: j 13 :: j 14 :: j 15 :: j 16 :: j 17 :: j 18 :: j 19 :: j 20 :: j 21 :: j 22 :: j 23 :: j 24 :: j 25 :: j 26 :: j 27 :: j 28 :: j 29 :: []), h1 ++ H⟩) ⟨.nils, [], .inl ⟨rfl, rfl, rfl, rfl⟩, by rw [List.append_nil]; exact junk rfl⟩ ?_
  rintro k st hk ⟨d, H, hap, j, rfl⟩
  have s' := s.low H
  have bA' : (h1 ++ H)[ra]? = some (.box (ofBytes a)) := (Ext.app (Ext.refl h1) H).get bA
  by_cases hkn : k < l.length
  · have hkn' : (k : Int) < l.length := by omega
    obtain ⟨p, cs, e1, e2, e3, e4⟩ := pf_elem s' ha hkn
    have e5 : IntKind.i64.wrap ((k : Int) + 1) = ((k + 1 : Nat) : Int) := by rw [w_i64 (by omega) (by omega)]; omega
    have hsu := idxB_succ (hasAt l v a) k
    have hle := idxB_le (hasAt l v a) k
    obtain ⟨H', q1, q2⟩ := hap.app (.int .i64 (k : Int)) (by omega) 8 (by omega)
    simp (disch := first | omega | (simp only [List.length_append, List.length_cons, List.length_nil]; omega)) only [c12r0, c12r1, c12r2, c12r3, c12r4, c12r5, c12r6, c12r7, c12l8, c12r9, s'.lend, s'.sort, hkn', e1, e2, e3, e4, bA', p7, hal2, go_sem, ↓reduceIte, reduceCtorEq, Nat.reduceAdd, Nat.reduceSub, Nat.reducePow, Nat.reduceMul, Nat.reduceEqDiff, Nat.reduceLT, Nat.reduceLeDiff, Int.reduceToNat, Int.reduceLT, Int.reduceLE, Int.reduceEq, Int.reduceNeg, Int.reduceAdd, Int.reduceSub, Int.reduceMul]
    refine xfc_of (rhas_fc _ (pfAt l k).v (pfAt l k).n v (pfAt l k).a a (ha.at k) hal) ?_
    rintro d2 h' ⟨rfl, e⟩
    refine ⟨⟨[], by rw [e, List.append_nil]⟩, ?_⟩
    rw [e]
    change gs _ _ _ _ ⟨setD _ _ (.bool (hasAt l v a k)), _⟩
    cases hb : hasAt l v a k with
    | false =>
      rw [hb] at hsu
      simp only [Bool.false_eq_true, if_false, List.append_nil] at hsu
      simp (disch := first | omega | (simp only [List.length_append, List.length_cons, List.length_nil]; omega)) only [e5, go_sem, ↓reduceIte, reduceCtorEq, Nat.reduceAdd, Nat.reduceSub, Nat.reducePow, Nat.reduceMul, Nat.reduceEqDiff, Nat.reduceLT, Nat.reduceLeDiff, Int.reduceToNat, Int.reduceLT, Int.reduceLE, Int.reduceEq, Int.reduceNeg, Int.reduceAdd, Int.reduceSub, Int.reduceMul]
      refine ⟨hkn, d, H, ?_, junk rfl⟩
      rw [hsu]; exact hap
    | true =>
      rw [hb, if_pos rfl] at hsu
      rw [← i64s_snoc, ← hsu] at q2
      have hl2 : (idxB (hasAt l v a) k).length + 1 = (idxB (hasAt l v a) (k + 1)).length := by rw [hsu, List.length_append]; rfl
      simp (disch := first | omega | (simp only [List.length_append, List.length_cons, List.length_nil]; omega)) only [List.append_assoc, q1, e5, go_sem, ↓reduceIte, reduceCtorEq, Nat.reduceAdd, Nat.reduceSub, Nat.reducePow, Nat.reduceMul, Nat.reduceEqDiff, Nat.reduceLT, Nat.reduceLeDiff, Int.reduceToNat, Int.reduceLT, Int.reduceLE, Int.reduceEq, Int.reduceNeg, Int.reduceAdd, Int.reduceSub, Int.reduceMul]
      rw [hl2] at q2
      exact ⟨hkn, _, H', q2, by rw [← hl2]; exact junk rfl⟩
  · have hkn' : ¬ (k : Int) < l.length := by omega
    have : k = l.length := by omega
    subst this
    have hle := idxB_le (hasAt l v a) l.length
    simp (disch := first | omega | (simp only [List.length_append, List.length_cons, List.length_nil]; omega)) only [c12r0, c12r1, c12r2, c12r3, c12r4, c12r5, c12r6, c12r7, c12l8, c12r9, s'.lend, s'.sort, hkn', go_sem, ↓reduceIte, reduceCtorEq, Nat.reduceAdd, Nat.reduceSub, Nat.reducePow, Nat.reduceMul, Nat.reduceEqDiff, Nat.reduceLT, Nat.reduceLeDiff, Int.reduceToNat, Int.reduceLT, Int.reduceLE, Int.reduceEq, Int.reduceNeg, Int.reduceAdd, Int.reduceSub, Int.reduceMul]
    refine gfc_of (of_fc _ d l.length (idxB (hasAt l v a) l.length) (hap.sl (i64s_length _)) (by omega) (by omega) (fun x hx => by have := (idxB_mem.1 hx).1; omega)) ?_
    rintro r h2 ⟨E, s2⟩
    simp (disch := first | omega | (simp only [List.length_append, List.length_cons, List.length_nil]; omega)) only [go_sem, ↓reduceIte, reduceCtorEq, Nat.reduceAdd, Nat.reduceSub, Nat.reducePow, Nat.reduceMul, Nat.reduceEqDiff, Nat.reduceLT, Nat.reduceLeDiff, Int.reduceToNat, Int.reduceLT, Int.reduceLE, Int.reduceEq, Int.reduceNeg, Int.reduceAdd, Int.reduceSub, Int.reduceMul]
    exact FinOk.all ⟨E0.trans ((Ext.app (Ext.refl _) _).trans E), s2⟩

/-! ### The longest one -/
def best19 (l : List Pf) (v : Int) (a : List UInt8) : Nat → Int
  | 0 => -1
  | k + 1 => if hasAt l v a k = true ∧ (best19 l v a k < 0 ∨ (pfAt l (best19 l v a k).toNat).n < (pfAt l k).n) then (k : Int) else best19 l v a k
theorem best19_le (l : List Pf) (v : Int) (a : List UInt8) : ∀ k, -1 ≤ best19 l v a k ∧ best19 l v a k < k
  | 0 => by simp [best19]
  | k + 1 => by
    have := best19_le l v a k
    rw [best19]
    split <;> omega
theorem cells_n {p : Pf} (h : p.a.length = 16) {cs : List D} (hc : cs.take 18 = p.cells) : (cs.drop 17)[0]? = some (.int .i64 p.n) := by
  have h1 : cs[17]? = p.cells[17]? := by
    rw [← hc, List.getElem?_take, if_pos (by omega)]
  rw [List.getElem?_drop, Nat.add_zero, h1]
  have : (ofBytes p.a).length = 16 := by rw [ofBytes_length, h]
  rw [Pf.cells, List.getElem?_cons_succ, List.getElem?_append_right (by omega), this]; rfl
theorem longest19_fc (h : Heap) (lD : D) (l : List Pf) (s : SlOf h 18 lD (pfs l) l.length) (ha : Addrs l) (hlen : l.length ≤ 1048576) (v : Int) (a : List UInt8) (hal : a.length = 16) :
    FC Try.prog 14 [lD, .int .i64 v, .agg (ofBytes a)] h fun d h' => d = .int .i64 (best19 l v a l.length) ∧ h' = h := by
  have hal2 : (ofBytes a).length = 16 := by rw [ofBytes_length, hal]
  have p7 : List.take 16 (ofBytes a) = ofBytes a := List.take_of_length_le (by omega)
  refine FC.goes cf14 ?_; simp only [c14]; simp only [List.length_cons, List.length_nil, Nat.reduceAdd, Nat.reduceSub, List.replicate_succ, List.replicate_zero, List.cons_append, List.nil_append]
  simp (disch := first | omega | (simp only [List.length_append, List.length_cons, List.length_nil]; omega)) only [c14r0, c14r1, c14r2, c14r3, c14r4, c14r5, c14r6, c14r7, c14l8, c14r9, go_sem, ↓reduceIte, reduceCtorEq, Nat.reduceAdd, Nat.reduceSub, Nat.reducePow, Nat.reduceMul, Nat.reduceEqDiff, Nat.reduceLT, Nat.reduceLeDiff, Int.reduceToNat, Int.reduceLT, Int.reduceLE, Int.reduceEq, Int.reduceNeg, Int.reduceAdd, Int.reduceSub, Int.reduceMul]
  have bA := last_get h (.box (ofBytes a))
  have s := s.low [.box (ofBytes a)]
  refine loop_to l.length (fun k st => ∃ (b : Int), b = best19 l v a k ∧ ∃ (j : Nat → D), st = ⟨(lD :: .int .i64 v :: j 2 :: j 3 :: j 4 :: .ref h.length 0 :: j 6 :: .int .i64 b :: .int .i64 (k : Int) :: j 9 :: j 10 :: j 11 :: j 12 :: j 13 :: j 14 :: j 15 :: j 16 :: j 17 :: j 18 :: j 19 :: j 20 :: j 21 :: j 22 :: j 23 :: j 24 :: j 25 :: j 26 :: j 27 :: j 28 :: j 29 :: j 30 :: j 31 :: j 32 :: j 33 :: j 34 :: j 35 :: j 36 :: j 37 :: j 38 :: j 39 :: j 40 :: []), h ++ [.box (ofBytes a)]⟩) ⟨-1, rfl, junk rfl⟩ ?_
  rintro k st hk ⟨b, hb, j, rfl⟩
  have hbl := best19_le l v a k
  rw [← hb] at hbl
  by_cases hkn : k < l.length
  · have hkn' : (k : Int) < l.length := by omega
    obtain ⟨p, cs, e1, e2, e3, e4⟩ := pf_elem s ha hkn
    have e5 : IntKind.i64.wrap ((k : Int) + 1) = ((k + 1 : Nat) : Int) := by rw [w_i64 (by omega) (by omega)]; omega
    have hstep : best19 l v a (k + 1) = if hasAt l v a k = true ∧ (b < 0 ∨ (pfAt l b.toNat).n < (pfAt l k).n) then (k : Int) else b := by rw [hb]; rfl
    simp (disch := first | omega | (simp only [List.length_append, List.length_cons, List.length_nil]; omega)) only [c14r0, c14r1, c14r2, c14r3, c14r4, c14r5, c14r6, c14r7, c14l8, c14r9, s.lend, s.sort, hkn', e1, e2, e3, e4, p7, hal2, go_sem, ↓reduceIte, reduceCtorEq, Nat.reduceAdd, Nat.reduceSub, Nat.reducePow, Nat.reduceMul, Nat.reduceEqDiff, Nat.reduceLT, Nat.reduceLeDiff, Int.reduceToNat, Int.reduceLT, Int.reduceLE, Int.reduceEq, Int.reduceNeg, Int.reduceAdd, Int.reduceSub, Int.reduceMul]
    refine xfc_of (rhas_fc _ (pfAt l k).v (pfAt l k).n v (pfAt l k).a a (ha.at k) hal) ?_
    rintro d2 h' ⟨rfl, e⟩
    refine ⟨⟨[], by rw [e, List.append_nil]⟩, ?_⟩
    rw [e]
    change gs _ _ _ _ ⟨setD _ _ (.bool (hasAt l v a k)), _⟩
    cases hh : hasAt l v a k with
    | false =>
      rw [if_neg (by rw [hh]; simp)] at hstep
      simp (disch := first | omega | (simp only [List.length_append, List.length_cons, List.length_nil]; omega)) only [e5, go_sem, ↓reduceIte, reduceCtorEq, Nat.reduceAdd, Nat.reduceSub, Nat.reducePow, Nat.reduceMul, Nat.reduceEqDiff, Nat.reduceLT, Nat.reduceLeDiff, Int.reduceToNat, Int.reduceLT, Int.reduceLE, Int.reduceEq, Int.reduceNeg, Int.reduceAdd, Int.reduceSub, Int.reduceMul]
      exact ⟨hkn, b, hstep.symm, junk rfl⟩
    | true =>
      by_cases hb0 : b < 0
      · rw [if_pos ⟨hh, .inl hb0⟩] at hstep
        simp (disch := first | omega | (simp only [List.length_append, List.length_cons, List.length_nil]; omega)) only [hb0, e5, go_sem, ↓reduceIte, reduceCtorEq, Nat.reduceAdd, Nat.reduceSub, Nat.reducePow, Nat.reduceMul, Nat.reduceEqDiff, Nat.reduceLT, Nat.reduceLeDiff, Int.reduceToNat, Int.reduceLT, Int.reduceLE, Int.reduceEq, Int.reduceNeg, Int.reduceAdd, Int.reduceSub, Int.reduceMul]
        exact ⟨hkn, k, hstep.symm, junk rfl⟩
      · obtain ⟨m, rfl⟩ := Int.eq_ofNat_of_zero_le (by omega : 0 ≤ b)
        rw [show ((m : Int)).toNat = m from rfl] at hstep
        obtain ⟨p2, cs2, f1, f2, f3, f4⟩ := pf_elem s ha (i := m) (by omega)
        obtain ⟨q, g1, g2⟩ := fa_of e2 17
        obtain ⟨q2, g3, g4⟩ := fa_of f2 17
        have n1 := cells_n (ha.at k) e3
        have n2 := cells_n (ha.at m) f3
        by_cases hgt : (pfAt l m).n < (pfAt l k).n
        · rw [if_pos ⟨hh, .inr hgt⟩] at hstep
          simp (disch := first | omega | (simp only [List.length_append, List.length_cons, List.length_nil]; omega)) only [hb0, e1, e2, f1, f2, g1, g2, g3, g4, n1, n2, hgt, e5, go_sem, ↓reduceIte, reduceCtorEq, Nat.reduceAdd, Nat.reduceSub, Nat.reducePow, Nat.reduceMul, Nat.reduceEqDiff, Nat.reduceLT, Nat.reduceLeDiff, Int.reduceToNat, Int.reduceLT, Int.reduceLE, Int.reduceEq, Int.reduceNeg, Int.reduceAdd, Int.reduceSub, Int.reduceMul]
          exact ⟨hkn, k, hstep.symm, junk rfl⟩
        · rw [if_neg (by omega)] at hstep
          simp (disch := first | omega | (simp only [List.length_append, List.length_cons, List.length_nil]; omega)) only [hb0, e1, e2, f1, f2, g1, g2, g3, g4, n1, n2, hgt, e5, go_sem, ↓reduceIte, reduceCtorEq, Nat.reduceAdd, Nat.reduceSub, Nat.reducePow, Nat.reduceMul, Nat.reduceEqDiff, Nat.reduceLT, Nat.reduceLeDiff, Int.reduceToNat, Int.reduceLT, Int.reduceLE, Int.reduceEq, Int.reduceNeg, Int.reduceAdd, Int.reduceSub, Int.reduceMul]
          exact ⟨hkn, m, hstep.symm, junk rfl⟩
  · have hkn' : ¬ (k : Int) < l.length := by omega
    have : k = l.length := by omega
    subst this
    simp (disch := first | omega | (simp only [List.length_append, List.length_cons, List.length_nil]; omega)) only [c14r0, c14r1, c14r2, c14r3, c14r4, c14r5, c14r6, c14r7, c14l8, c14r9, s.lend, s.sort, hkn', go_sem, ↓reduceIte, reduceCtorEq, Nat.reduceAdd, Nat.reduceSub, Nat.reducePow, Nat.reduceMul, Nat.reduceEqDiff, Nat.reduceLT, Nat.reduceLeDiff, Int.reduceToNat, Int.reduceLT, Int.reduceLE, Int.reduceEq, Int.reduceNeg, Int.reduceAdd, Int.reduceSub, Int.reduceMul]
    rw [hb]
    exact FinOk.drop (.inl rfl) (by simp [underL, underD]) ⟨rfl, rfl⟩

/-! ### Roots and bits -/
def rootN (v : Int) : Nat := if v = 6 then 1 else 0
def rootB (v : Int) : Bool := decide (v = 4 ∨ v = 6)
theorem root_fc (h : Heap) (v : Int) : FC Try.prog 35 [.int .i64 v] h fun d h' => d = .tup [.int .i64 ((rootN v : Nat) : Int), .bool (rootB v)] ∧ h' = h := by
  refine FC.goes cf35 ?_; simp only [c35]; simp only [List.length_cons, List.length_nil, Nat.reduceAdd, Nat.reduceSub, List.replicate_succ, List.replicate_zero, List.cons_append, List.nil_append]
  by_cases h4 : v = 4
  · subst h4
    simp (disch := first | omega | (simp only [List.length_append, List.length_cons, List.length_nil]; omega)) only [c35r0, c35r1, c35r2, c35r3, c35r4, c35r5, c35r6, go_sem, ↓reduceIte, reduceCtorEq, Nat.reduceAdd, Nat.reduceSub, Nat.reducePow, Nat.reduceMul, Nat.reduceEqDiff, Nat.reduceLT, Nat.reduceLeDiff, Int.reduceToNat, Int.reduceLT, Int.reduceLE, Int.reduceEq, Int.reduceNeg, Int.reduceAdd, Int.reduceSub, Int.reduceMul]
    exact FinOk.all ⟨rfl, rfl⟩
  · by_cases h6 : v = 6
    · subst h6
      simp (disch := first | omega | (simp only [List.length_append, List.length_cons, List.length_nil]; omega)) only [c35r0, c35r1, c35r2, c35r3, c35r4, c35r5, c35r6, go_sem, ↓reduceIte, reduceCtorEq, Nat.reduceAdd, Nat.reduceSub, Nat.reducePow, Nat.reduceMul, Nat.reduceEqDiff, Nat.reduceLT, Nat.reduceLeDiff, Int.reduceToNat, Int.reduceLT, Int.reduceLE, Int.reduceEq, Int.reduceNeg, Int.reduceAdd, Int.reduceSub, Int.reduceMul]
      exact FinOk.all ⟨rfl, rfl⟩
    · have e1 : rootN v = 0 := by simp [rootN, h6]
      have e2 : rootB v = false := by simp [rootB, h4, h6]
      rw [e1, e2]
      simp (disch := first | omega | (simp only [List.length_append, List.length_cons, List.length_nil]; omega)) only [c35r0, c35r1, c35r2, c35r3, c35r4, c35r5, c35r6, h4, h6, go_sem, ↓reduceIte, reduceCtorEq, Nat.reduceAdd, Nat.reduceSub, Nat.reducePow, Nat.reduceMul, Nat.reduceEqDiff, Nat.reduceLT, Nat.reduceLeDiff, Int.reduceToNat, Int.reduceLT, Int.reduceLE, Int.reduceEq, Int.reduceNeg, Int.reduceAdd, Int.reduceSub, Int.reduceMul]
      exact FinOk.all ⟨rfl, rfl⟩
theorem and_i64 {x y : Nat} (hx : x < 9223372036854775808) (hy : y < 9223372036854775808) : arith .and (.int .i64 (x : Int)) (.int .i64 (y : Int)) = some (.int .i64 ((x &&& y : Nat) : Int)) := by
  have h1 : x < 2 ^ IntKind.i64.bits := by show x < 18446744073709551616; omega
  have h2 : y < 2 ^ IntKind.i64.bits := by show y < 18446744073709551616; omega
  have h3 : x &&& y ≤ x := Nat.and_le_left
  rw [ar_and, ofIntNat, ofIntNat, BitVec.toNat_and, BitVec.toNat_ofNat, BitVec.toNat_ofNat, Nat.mod_eq_of_lt h1, Nat.mod_eq_of_lt h2, w_i64 (by omega) (by omega)]
theorem and7 {i : Nat} (h : i < 128) : arith .and (.int .i64 (i : Int)) (.int .i64 7) = some (.int .i64 ((i % 8 : Nat) : Int)) := by
  have := and_i64 (x := i) (y := 7) (by omega) (by omega)
  rw [show (7 : Nat) = 2 ^ 3 - 1 by rfl, Nat.and_two_pow_sub_one_eq_mod] at this
  exact this
theorem and1 {i : Nat} (h : i < 256) : arith .and (.int .i64 (i : Int)) (.int .i64 1) = some (.int .i64 ((i % 2 : Nat) : Int)) := by
  have := and_i64 (x := i) (y := 1) (by omega) (by omega)
  rw [Nat.and_one_is_mod] at this
  exact this
theorem tbit_fc (h : Heap) (a : List UInt8) (ha : a.length = 16) (i : Nat) (hi : i < 128) : FC Try.prog 37 [.agg (ofBytes a), .int .i64 (i : Int)] h fun d h' => d = .int .i64 ((bitN a i : Nat) : Int) ∧ h' = h := by
  refine FC.goes cf37 ?_; simp only [c37]; simp only [List.length_cons, List.length_nil, Nat.reduceAdd, Nat.reduceSub, List.replicate_succ, List.replicate_zero, List.cons_append, List.nil_append]
  have hi8 : i / 8 < 16 := by omega
  have hg := byte_at ha hi8
  have hb := (a.getD (i / 8) 0).toNat_lt
  have hbn : bitN a i = (a.getD (i / 8) 0).toNat / 2 ^ (7 - i % 8) % 2 := rfl
  have hal : (ofBytes a).length = 16 := by rw [ofBytes_length, ha]
  rw [hbn]
  generalize a.getD (i / 8) 0 = b at *
  have e3 : IntKind.i64.wrap (7 - ((i % 8 : Nat) : Int)) = ((7 - i % 8 : Nat) : Int) := by rw [w_i64 (by omega) (by omega)]; omega
  have e4 : IntKind.u64.wrap ((7 - i % 8 : Nat) : Int) = ((7 - i % 8 : Nat) : Int) := w_u64 (by omega) (by omega)
  have a7 := and7 hi
  have s3 : arith .shr (.int .i64 (i : Int)) (.int .u64 3) = some (.int .i64 ((i / 8 : Nat) : Int)) := ar_shrN (k := .i64) (x := i) (b := 3) (by omega) (by decide)
  have hq : b.toNat / 2 ^ (7 - i % 8) ≤ b.toNat := Nat.div_le_self _ _
  have a1 := and1 (i := b.toNat / 2 ^ (7 - i % 8)) (by omega)
  have e6 : IntKind.i64.wrap ((b.toNat / 2 ^ (7 - i % 8) : Nat) : Int) = ((b.toNat / 2 ^ (7 - i % 8) : Nat) : Int) :=
    (fun (q : Nat) (hq : q ≤ 255) => w_i64 (n := (q : Int)) (by omega) (by omega)) _ (by omega)
  simp (disch := first | omega | (simp only [List.length_append, List.length_cons, List.length_nil]; omega)) only [c37r0, c37r1, s3, a7, e3, e4, hg, hal, e6, a1, go_sem, ↓reduceIte, reduceCtorEq, Nat.reduceAdd, Nat.reduceSub, Nat.reducePow, Nat.reduceMul, Nat.reduceEqDiff, Nat.reduceLT, Nat.reduceLeDiff, Int.reduceToNat, Int.reduceLT, Int.reduceLE, Int.reduceEq, Int.reduceNeg, Int.reduceAdd, Int.reduceSub, Int.reduceMul]
  exact FinOk.drop (.inl rfl) (by simp [underL, underD]) ⟨rfl, rfl⟩
end Go.Proofs

/-
  Own work. How a trie lies in memory: its nodes by root and path.
-/
namespace Go.Proofs
open Go Go.Ytecmopdncgekhaa
set_option linter.unusedVariables false
set_option linter.unusedSimpArgs false
set_option maxRecDepth 10000

/-- A node: its root, its path, where it lies, and where its ends lie. -/
structure Nd where
  k : Nat
  s : List Bool
  b : Nat
  e : Nat
def Nd.is (r : Nd) (k : Nat) (s : List Bool) : Prop := r.k = k ∧ r.s = s
instance (r : Nd) (k : Nat) (s : List Bool) : Decidable (r.is k s) := inferInstanceAs (Decidable (_ ∧ _))
def kidD (ns : List Nd) (k : Nat) (s : List Bool) : D := match ns.find? (fun r => decide (r.is k s)) with
  | some r => .ref r.b 0
  | none => .nilp
def endD (E : List Nat) (e : Nat) : D := if E = [] then .nils else .own e E.length
structure TrieAt (Hp : Heap) (T : Nat) (ns : List Nd) (E : Nat → List Bool → List Nat) (many : Nat) : Prop where
  box : Hp[T]? = some (.box [kidD ns 0 [], kidD ns 1 [], .int .i64 (many : Int), .int .i64 (ns.length : Int)])
  nd : ∀ r ∈ ns, Hp[r.b]? = some (.box [endD (E r.k r.s) r.e, kidD ns r.k (r.s ++ [false]), kidD ns r.k (r.s ++ [true])])
  en : ∀ r ∈ ns, E r.k r.s ≠ [] → Hp[r.e]? = some (.grow 1 (i64s (E r.k r.s)) (E r.k r.s).length)
  tb : ∀ r ∈ ns, r.b ≠ T
  keys : ∀ r ∈ ns, ∀ r' ∈ ns, r.k = r'.k → r.s = r'.s → r = r'
  blks : ∀ r ∈ ns, ∀ r' ∈ ns, r.b = r'.b → r = r'
  eblk : ∀ r ∈ ns, ∀ r' ∈ ns, E r.k r.s ≠ [] → E r'.k r'.s ≠ [] → r.e = r'.e → r = r'
  nodup : ns.Nodup
  non : ∀ k s, (∀ r ∈ ns, ¬ r.is k s) → E k s = []
  shut : ∀ r ∈ ns, ∀ s x, r.s = s ++ [x] → ∃ r' ∈ ns, r'.is r.k s
theorem kid_some {ns : List Nd} {k : Nat} {s : List Bool} {r : Nd} (hk : ∀ r ∈ ns, ∀ r' ∈ ns, r.k = r'.k → r.s = r'.s → r = r') (hr : r ∈ ns) (h : r.is k s) : kidD ns k s = .ref r.b 0 := by
  unfold kidD
  cases hf : ns.find? (fun r => decide (r.is k s)) with
  | none =>
    have := List.find?_eq_none.1 hf r hr
    simp [h] at this
  | some q =>
    have hq := List.find?_some hf
    have hm := List.mem_of_find?_eq_some hf
    simp only [decide_eq_true_eq] at hq
    have : q = r := hk q hm r hr (by rw [hq.1, h.1]) (by rw [hq.2, h.2])
    rw [this]
theorem kid_none {ns : List Nd} {k : Nat} {s : List Bool} (h : ∀ r ∈ ns, ¬ r.is k s) : kidD ns k s = .nilp := by
  unfold kidD
  have : ns.find? (fun r => decide (r.is k s)) = none := by
    rw [List.find?_eq_none]
    intro r hr
    simpa using h r hr
  rw [this]
theorem kid_snoc {ns : List Nd} {nd : Nd} {k : Nat} {s : List Bool} (h : ¬ nd.is k s) : kidD (ns ++ [nd]) k s = kidD ns k s := by
  unfold kidD
  rw [List.find?_append]
  have : [nd].find? (fun r => decide (r.is k s)) = none := by simp [h]
  rw [this, Option.or_none]
theorem kid_cases (ns : List Nd) (k : Nat) (s : List Bool) : (kidD ns k s = .nilp ∧ ∀ r ∈ ns, ¬ r.is k s) ∨ ∃ r ∈ ns, r.is k s ∧ kidD ns k s = .ref r.b 0 := by
  unfold kidD
  cases hf : ns.find? (fun r => decide (r.is k s)) with
  | none => exact .inl ⟨rfl, fun r hr => by have := List.find?_eq_none.1 hf r hr; simpa using this⟩
  | some q => exact .inr ⟨q, List.mem_of_find?_eq_some hf, by simpa using List.find?_some hf, rfl⟩
theorem TrieAt.ext {Hp Hp' : Heap} {T : Nat} {ns : List Nd} {E : Nat → List Bool → List Nat} {many : Nat} (t : TrieAt Hp T ns E many) (e : Ext Hp Hp') : TrieAt Hp' T ns E many :=
  ⟨e.get t.box, fun r hr => e.get (t.nd r hr), fun r hr h => e.get (t.en r hr h), t.tb, t.keys, t.blks, t.eblk, t.nodup, t.non, t.shut⟩

/-- A node more. -/
theorem TrieAt.add {Hp H2 : Heap} {T : Nat} {ns : List Nd} {E : Nat → List Bool → List Nat} {many k b' : Nat} {s : List Bool} (t : TrieAt Hp T ns E many) (hno : ∀ r ∈ ns, ¬ r.is k s)
    (hpar : s = [] ∨ ∃ s0 x, s = s0 ++ [x] ∧ ∃ r ∈ ns, r.is k s0) (hfresh : Hp.length ≤ b')
    (keep : ∀ i b, Hp[i]? = some b → i ≠ T → (∀ r ∈ ns, r.b = i → ∀ x, ¬ (r.k = k ∧ s = r.s ++ [x])) → H2[i]? = some b)
    (hT : H2[T]? = some (.box [kidD (ns ++ [⟨k, s, b', 0⟩]) 0 [], kidD (ns ++ [⟨k, s, b', 0⟩]) 1 [], .int .i64 (many : Int), .int .i64 ((ns.length + 1 : Nat) : Int)]))
    (hp : ∀ r ∈ ns, ∀ x, r.k = k → s = r.s ++ [x] → H2[r.b]? = some (.box [endD (E r.k r.s) r.e, kidD (ns ++ [⟨k, s, b', 0⟩]) r.k (r.s ++ [false]), kidD (ns ++ [⟨k, s, b', 0⟩]) r.k (r.s ++ [true])]))
    (hb : H2[b']? = some (.box [.nils, .nilp, .nilp])) : TrieAt H2 T (ns ++ [⟨k, s, b', 0⟩]) E many := by
  have hE : E k s = [] := t.non k s hno
  have hlt : ∀ r ∈ ns, r.b < Hp.length := fun r hr => lt_of_get (t.nd r hr)
  have hTl := lt_of_get t.box
  refine ⟨by rw [hT]; simp, ?_, ?_, ?_, ?_, ?_, ?_, ?_, ?_, ?_⟩
  · intro r hr
    rcases List.mem_append.1 hr with hr | hr
    · by_cases hpp : ∃ x, r.k = k ∧ s = r.s ++ [x]
      · obtain ⟨x, h1, h2⟩ := hpp
        exact hp r hr x h1 h2
      · have hn : ∀ x, ¬ (⟨k, s, b', 0⟩ : Nd).is r.k (r.s ++ [x]) := fun x h => hpp ⟨x, h.1.symm, h.2⟩
        rw [kid_snoc (hn false), kid_snoc (hn true)]
        refine keep _ _ (t.nd r hr) (t.tb r hr) fun r' hr' hbb x hx => ?_
        have := t.blks r' hr' r hr hbb
        subst this
        exact hpp ⟨x, hx⟩
    · simp only [List.mem_singleton] at hr
      subst hr
      have hch : ∀ x, ∀ r ∈ ns ++ [(⟨k, s, b', 0⟩ : Nd)], ¬ r.is k (s ++ [x]) := fun x r hr hi => by
        rcases List.mem_append.1 hr with hr | hr
        · obtain ⟨r', hr', h'⟩ := t.shut r hr s x hi.2
          rw [hi.1] at h'
          exact hno r' hr' h'
        · simp only [List.mem_singleton] at hr
          subst hr
          have := congrArg List.length hi.2
          simp at this
      rw [kid_none (hch false), kid_none (hch true)]
      simp only
      rw [hE, hb]; rfl
  · intro r hr hne
    rcases List.mem_append.1 hr with hr | hr
    · have hen := t.en r hr hne
      refine keep _ _ hen ?_ fun r' hr' hbb _ _ => ?_
      · intro h; rw [h, t.box] at hen; cases hen
      · have := t.nd r' hr'
        rw [hbb, hen] at this; cases this
    · simp only [List.mem_singleton] at hr
      subst hr
      exact absurd hE hne
  · intro r hr
    rcases List.mem_append.1 hr with hr | hr
    · exact t.tb r hr
    · simp only [List.mem_singleton] at hr
      subst hr
      simp only; omega
  · intro r hr r' hr' h1 h2
    rcases List.mem_append.1 hr with hr | hr <;> rcases List.mem_append.1 hr' with hr' | hr'
    · exact t.keys r hr r' hr' h1 h2
    · simp only [List.mem_singleton] at hr'
      subst hr'
      exact absurd ⟨h1, h2⟩ (hno r hr)
    · simp only [List.mem_singleton] at hr
      subst hr
      exact absurd ⟨h1.symm, h2.symm⟩ (hno r' hr')
    · simp only [List.mem_singleton] at hr hr'
      rw [hr, hr']
  · intro r hr r' hr' h
    rcases List.mem_append.1 hr with hr | hr <;> rcases List.mem_append.1 hr' with hr' | hr'
    · exact t.blks r hr r' hr' h
    · simp only [List.mem_singleton] at hr'
      subst hr'
      have := hlt r hr
      simp only at h; omega
    · simp only [List.mem_singleton] at hr
      subst hr
      have := hlt r' hr'
      simp only at h; omega
    · simp only [List.mem_singleton] at hr hr'
      rw [hr, hr']
  · intro r hr r' hr' h1 h2 h
    rcases List.mem_append.1 hr with hr | hr <;> rcases List.mem_append.1 hr' with hr' | hr'
    · exact t.eblk r hr r' hr' h1 h2 h
    · simp only [List.mem_singleton] at hr'
      subst hr'
      exact absurd hE h2
    · simp only [List.mem_singleton] at hr
      subst hr
      exact absurd hE h1
    · simp only [List.mem_singleton] at hr hr'
      rw [hr, hr']
  · rw [List.nodup_append]
    refine ⟨t.nodup, by simp, fun a ha b hb => ?_⟩
    simp only [List.mem_singleton] at hb
    rintro rfl
    subst hb
    exact hno _ ha ⟨rfl, rfl⟩
  · intro k' s' h
    exact t.non k' s' fun r hr => h r (by simp [hr])
  · intro r hr s' x h
    rcases List.mem_append.1 hr with hr | hr
    · obtain ⟨r', h1, h2⟩ := t.shut r hr s' x h
      exact ⟨r', by simp [h1], h2⟩
    · simp only [List.mem_singleton] at hr
      subst hr
      simp only at h
      rcases hpar with h0 | ⟨s0, x0, h1, r', hr', hi⟩
      · rw [h0] at h; simp at h
      · rw [h1] at h
        have := List.append_inj' h rfl
        rw [this.1] at hi
        exact ⟨r', by simp [hr'], hi⟩
end Go.Proofs

/-
  Own work. The walks of trie: grow, put.
-/
namespace Go.Proofs
open Go Go.Ytecmopdncgekhaa
set_option linter.unusedVariables false
set_option linter.unusedSimpArgs false
set_option maxRecDepth 10000

/-! ### (*weighbridge/trie.Trie).grow, params 2 -/
def c36r0 : List AStm := [.op (some 4) none (.mv (.c .nilp))]
def c36r1 : List AStm := [.op (some 5) none (.mv (.t 1)),
    .op (some 6) none (.nilchk (.t 5)),
    .op (some 7) none (.load none (.t 6)),
    .op (some 8) none (.isnil false 1 (.t 7))]
def c36r2 : List AStm := [.op (some 9) none (.mv (.t 1)),
    .op (some 10) none (.build [.nils, .nilp, .nilp] []),
    .op (some 11) none (.box (.t 10)),
    .op (some 12) none (.nilchk (.t 9)),
    .op none none (.store 1 (.t 12) (.t 11))]
def c36r3 : List AStm := [.op (some 13) none (.mv (.t 0)),
    .op (some 14) none (.nilchk (.t 13)),
    .op (some 15) none (.faddr 3 (.t 14)),
    .op (some 16) none (.load none (.t 15)),
    .op (some 17) none (.bin .add (.t 16) (.c (.int .i64 1))),
    .op (some 18) none (.nilchk (.t 13)),
    .op (some 19) none (.faddr 3 (.t 18)),
    .op none none (.store 1 (.t 19) (.t 17))]
def c36r4 : List AStm := [.op (some 20) none (.mv (.t 1)),
    .op (some 21) none (.nilchk (.t 20)),
    .op (some 22) none (.load none (.t 21)),
    .op (some 4) none (.mv (.t 22))]
def c36 : CF := ⟨.seq (.reg c36r0) (.seq (.seq (.reg c36r1) (.cond (.t 8) (.seq (.reg c36r2) (.reg c36r3)) (.skip))) (.seq (.reg c36r4) (.ret))), [.tmp 4], 23⟩
theorem cf36 : cfun Try.prog 36 = some c36 := by kernel_rfl

/-! ### (*weighbridge/trie.Trie).put, params 3 -/
def c22r0 : List AStm := [.op (some 4) none (.box (.t 1))]
def c22r1 : List AStm := [.op (some 11) none (.faddr 0 (.t 4)),
    .op (some 12) none (.load none (.t 11)),
    .call (some 13) none (.c (.fn (.func 35) [] [])) [(.t 12)],
    .op (some 10) none (.mv (.t 13)),
    .op (some 14) none (.ext (.t 10) 0),
    .op (some 15) none (.ext (.t 10) 1),
    .op (some 6) none (.mv (.t 14)),
    .op (some 7) none (.mv (.t 15))]
def c22r2 : List AStm := [.op (some 16) none (.mv (.t 0)),
    .op (some 17) none (.mv (.t 0)),
    .op (some 18) none (.mv (.t 6)),
    .op (some 19) none (.nilchk (.t 17)),
    .op (some 20) none (.faddr 0 (.t 19)),
    .op (some 21) none (.ixa 2 1 (.t 20) (.t 18)),
    .call (some 22) none (.c (.fn (.func 36) [] [])) [(.t 16), (.t 21)],
    .op (some 8) none (.mv (.t 22))]
def c22r3 : List AStm := [.op (some 23) none (.faddr 17 (.t 4)),
    .op (some 24) none (.load none (.t 23)),
    .op (some 25) none (.mv (.c (.int .i64 0)))]
def c22r4 : List AStm := [.op (some 26) none (.bin .lss (.t 25) (.t 24))]
def c22r5 : List AStm := [.op (some 27) none (.mv (.t 25)),
    .op (some 9) none (.mv (.t 27))]
def c22r6 : List AStm := []
def c22r7 : List AStm := [.op (some 28) none (.mv (.t 0)),
    .op (some 29) none (.mv (.t 8)),
    .op (some 30) none (.faddr 1 (.t 4)),
    .op (some 31) none (.load (some 16) (.t 30)),
    .op (some 32) none (.mv (.t 9)),
    .op (some 34) none (.nilchk (.t 29)),
    .op (some 35) none (.faddr 1 (.t 34)),
    .callG (some 33) none (.c (.fn (.func 37) [] [])) [(.t 31), (.t 32)],
    .op (some 36) none (.ixa 2 1 (.t 35) (.t 33)),
    .call (some 37) none (.c (.fn (.func 36) [] [])) [(.t 28), (.t 36)],
    .op (some 8) none (.mv (.t 37))]
def c22r8 : List AStm := [.op (some 38) none (.bin .add (.t 25) (.c (.int .i64 1))),
    .op (some 25) none (.mv (.t 38))]
def c22l9 : AC := .seq (.reg c22r4) (.seq (.cond (.t 26) (.skip) (.exit 0)) (.seq (.block 1 (.seq (.reg c22r5) (.dreg c22r6 c22r7))) (.reg c22r8)))
def c22r10 : List AStm := [.op (some 39) none (.mv (.t 8)),
    .op (some 40) none (.mv (.t 8)),
    .op (some 41) none (.nilchk (.t 40)),
    .op (some 42) none (.faddr 0 (.t 41)),
    .op (some 43) none (.load none (.t 42)),
    .op (some 44) none (.mv (.t 2)),
    .op (some 45) none (.bslice 1 [(.int .i64 0)] 1 [(0, 1, (.t 44))]),
    .op (some 46) none (.append false 1 8 (.t 43) (.t 45)),
    .op (some 47) none (.nilchk (.t 39)),
    .op (some 48) none (.faddr 0 (.t 47)),
    .op none none (.store 1 (.t 48) (.t 46))]
def c22 : CF := ⟨.seq (.reg c22r0) (.seq (.reg c22r1) (.seq (.reg c22r2) (.seq (.seq (.reg c22r3) (.block 0 (.loop c22l9))) (.reg c22r10)))), [], 49⟩
theorem cf22 : cfun Try.prog 22 = some c22 := by kernel_rfl



theorem grow_there (h : Heap) (T B off y : Nat) (cs ys : List D) (hB : h[B]? = some (.box cs)) (hv : (cs.drop off)[0]? = some (.ref y 0)) (hy : h[y]? = some (.box ys)) :
    FC Try.prog 36 [.ref T 0, .ref B off] h fun d h' => d = .ref y 0 ∧ h' = h := by
  refine FC.goes cf36 ?_; simp only [c36]; simp only [List.length_cons, List.length_nil, Nat.reduceAdd, Nat.reduceSub, List.replicate_succ, List.replicate_zero, List.cons_append, List.nil_append]
  simp (disch := first | omega | (simp only [List.length_append, List.length_cons, List.length_nil]; omega)) only [c36r0, c36r1, c36r2, c36r3, c36r4, hB, hv, hy, go_sem, ↓reduceIte, reduceCtorEq, Nat.reduceAdd, Nat.reduceSub, Nat.reducePow, Nat.reduceMul, Nat.reduceEqDiff, Nat.reduceLT, Nat.reduceLeDiff, Int.reduceToNat, Int.reduceLT, Int.reduceLE, Int.reduceEq, Int.reduceNeg, Int.reduceAdd, Int.reduceSub, Int.reduceMul]
  exact FinOk.all ⟨rfl, rfl⟩
theorem set_get_ne {h : Heap} {i j : Nat} {b : Blk} (hn : i ≠ j) : (h.set i b)[j]? = h[j]? := List.getElem?_set_ne hn
theorem set_get_eq {h : Heap} {i : Nat} {b : Blk} (hl : i < h.length) : (h.set i b)[i]? = some b := List.getElem?_set_self hl
/-- The heap with a node more, in another one's block. -/
theorem grow_new (h : Heap) (T B off n : Nat) (cs : List D) (r0 r1 m : D) (hne : B ≠ T) (hB : h[B]? = some (.box cs)) (hoff : off < cs.length) (hv : (cs.drop off)[0]? = some .nilp) (hT : h[T]? = some (.box [r0, r1, m, .int .i64 (n : Int)])) (hn : n < 1000000) :
    FC Try.prog 36 [.ref T 0, .ref B off] h fun d h' => d = .ref h.length 0 ∧ h' = (h.set B (.box (cs.set off (.ref h.length 0)))).set T (.box [r0, r1, m, .int .i64 ((n + 1 : Nat) : Int)]) ++ [.box [.nils, .nilp, .nilp]] := by
  have hBl := lt_of_get hB
  have hTl := lt_of_get hT
  have e1 : IntKind.i64.wrap ((n : Int) + 1) = ((n + 1 : Nat) : Int) := by rw [w_i64 (by omega) (by omega)]; omega
  have hT2 : ∀ X : Blk, (h.set B X)[T]? = some (.box [r0, r1, m, .int .i64 (n : Int)]) := fun X => by rw [set_get_ne hne]; exact hT
  have hB2 : ∀ X Y : Blk, ((h.set B X).set T Y)[B]? = some X := fun X Y => by rw [set_get_ne (Ne.symm hne), set_get_eq hBl]
  have hd : ((cs.set off (.ref h.length 0)).drop off)[0]? = some (.ref h.length 0) := by
    rw [List.getElem?_drop, Nat.add_zero, List.getElem?_set_self hoff]
  have hl2 : ∀ (X : Blk) (L : Heap), (h.set B X ++ L)[T]? = some (.box [r0, r1, m, .int .i64 (n : Int)]) := fun X L => by
    rw [List.getElem?_append_left (by simpa using hTl)]; exact hT2 X
  have hl3 : ∀ (X Y : Blk) (L : Heap), ((h.set B X ++ L).set T Y) = (h.set B X).set T Y ++ L := fun X Y L => List.set_append_left _ _ (by simpa using hTl)
  have hl4 : ∀ (X Y : Blk) (L : Heap), ((h.set B X).set T Y ++ L)[B]? = some X := fun X Y L => by
    rw [List.getElem?_append_left (by simpa using hBl)]; exact hB2 X Y
  refine FC.goes cf36 ?_; simp only [c36]; simp only [List.length_cons, List.length_nil, Nat.reduceAdd, Nat.reduceSub, List.replicate_succ, List.replicate_zero, List.cons_append, List.nil_append]
  simp (disch := first | omega | (simp only [List.length_append, List.length_cons, List.length_nil]; omega)) only [c36r0, c36r1, c36r2, c36r3, c36r4, hB, hv, hT, hd, e1, fillD, hl2, hl3, hl4, go_sem, ↓reduceIte, reduceCtorEq, Nat.reduceAdd, Nat.reduceSub, Nat.reducePow, Nat.reduceMul, Nat.reduceEqDiff, Nat.reduceLT, Nat.reduceLeDiff, Int.reduceToNat, Int.reduceLT, Int.reduceLE, Int.reduceEq, Int.reduceNeg, Int.reduceAdd, Int.reduceSub, Int.reduceMul]
  exact FinOk.all ⟨rfl, rfl⟩
/-- The heap with a root more. -/
theorem grow_root (h : Heap) (T k n : Nat) (r0 r1 m : D) (hk : (k = 0 ∧ r0 = .nilp) ∨ (k = 1 ∧ r1 = .nilp)) (hT : h[T]? = some (.box [r0, r1, m, .int .i64 (n : Int)])) (hn : n < 1000000) :
    FC Try.prog 36 [.ref T 0, .ref T k] h fun d h' => d = .ref h.length 0 ∧ h' = h.set T (.box [if k = 0 then .ref h.length 0 else r0, if k = 1 then .ref h.length 0 else r1, m, .int .i64 ((n + 1 : Nat) : Int)]) ++ [.box [.nils, .nilp, .nilp]] := by
  have hTl := lt_of_get hT
  have e1 : IntKind.i64.wrap ((n : Int) + 1) = ((n + 1 : Nat) : Int) := by rw [w_i64 (by omega) (by omega)]; omega
  have hT2 : ∀ X : Blk, (h.set T X)[T]? = some X := fun X => set_get_eq hTl
  have hT3 : ∀ X Y : Blk, ((h.set T X).set T Y)[T]? = some Y := fun X Y => by rw [set_get_eq (by simpa using hTl)]
  have hl2 : ∀ (X : Blk) (L : Heap), (h.set T X ++ L)[T]? = some X := fun X L => by
    rw [List.getElem?_append_left (by simpa using hTl)]; exact hT2 X
  have hl3 : ∀ (X Y : Blk) (L : Heap), ((h.set T X ++ L).set T Y) = h.set T Y ++ L := fun X Y L => by
    rw [List.set_append_left _ _ (by simpa using hTl)]; simp
  rcases hk with ⟨rfl, rfl⟩ | ⟨rfl, rfl⟩
  · refine FC.goes cf36 ?_; simp only [c36]; simp only [List.length_cons, List.length_nil, Nat.reduceAdd, Nat.reduceSub, List.replicate_succ, List.replicate_zero, List.cons_append, List.nil_append]
    simp (disch := first | omega | (simp only [List.length_append, List.length_cons, List.length_nil]; omega)) only [c36r0, c36r1, c36r2, c36r3, c36r4, hT, e1, fillD, hl2, hl3, go_sem, ↓reduceIte, reduceCtorEq, Nat.reduceAdd, Nat.reduceSub, Nat.reducePow, Nat.reduceMul, Nat.reduceEqDiff, Nat.reduceLT, Nat.reduceLeDiff, Int.reduceToNat, Int.reduceLT, Int.reduceLE, Int.reduceEq, Int.reduceNeg, Int.reduceAdd, Int.reduceSub, Int.reduceMul]
    exact FinOk.all ⟨rfl, rfl⟩
  · refine FC.goes cf36 ?_; simp only [c36]; simp only [List.length_cons, List.length_nil, Nat.reduceAdd, Nat.reduceSub, List.replicate_succ, List.replicate_zero, List.cons_append, List.nil_append]
    simp (disch := first | omega | (simp only [List.length_append, List.length_cons, List.length_nil]; omega)) only [c36r0, c36r1, c36r2, c36r3, c36r4, hT, e1, fillD, hl2, hl3, go_sem, ↓reduceIte, reduceCtorEq, Nat.reduceAdd, Nat.reduceSub, Nat.reducePow, Nat.reduceMul, Nat.reduceEqDiff, Nat.reduceLT, Nat.reduceLeDiff, Int.reduceToNat, Int.reduceLT, Int.reduceLE, Int.reduceEq, Int.reduceNeg, Int.reduceAdd, Int.reduceSub, Int.reduceMul]
    exact FinOk.all ⟨rfl, rfl⟩

theorem kid_new {ns : List Nd} {k b e : Nat} {s : List Bool} (h : ∀ r ∈ ns, ¬ r.is k s) : kidD (ns ++ [⟨k, s, b, e⟩]) k s = .ref b 0 := by
  unfold kidD
  have h1 : ns.find? (fun r => decide (r.is k s)) = none := by
    rw [List.find?_eq_none]
    intro r hr
    simpa using h r hr
  have h2 : [(⟨k, s, b, e⟩ : Nd)].find? (fun r => decide (r.is k s)) = some ⟨k, s, b, e⟩ := by simp [Nd.is]
  rw [List.find?_append, h1, Option.none_or, h2]
/-- Where a node's place is. -/
def AtLoc (ns : List Nd) (T k : Nat) (s : List Bool) (B off : Nat) : Prop :=
  (s = [] ∧ k < 2 ∧ B = T ∧ off = k) ∨ ∃ r ∈ ns, ∃ x : Bool, r.k = k ∧ s = r.s ++ [x] ∧ B = r.b ∧ off = 1 + x.toNat
/-- All but the trie's own nodes stay. -/
def Keeps (ns : List Nd) (T : Nat) (h h' : Heap) : Prop := h.length ≤ h'.length ∧ ∀ i b, h[i]? = some b → i ≠ T → (∀ r ∈ ns, r.b ≠ i) → h'[i]? = some b
theorem Keeps.refl (ns : List Nd) (T : Nat) (h : Heap) : Keeps ns T h h := ⟨Nat.le_refl _, fun _ _ h _ _ => h⟩

theorem tgrow_fc (h : Heap) (T B off k many : Nat) (s : List Bool) (ns : List Nd) (E : Nat → List Bool → List Nat) (t : TrieAt h T ns E many) (hn : ns.length < 1000000) (hat : AtLoc ns T k s B off) :
    FC Try.prog 36 [.ref T 0, .ref B off] h fun d h' => ∃ ns', TrieAt h' T ns' E many ∧ Keeps ns T h h' ∧ (∃ r ∈ ns', r.is k s ∧ d = .ref r.b 0) ∧
      (ns' = ns ∨ (ns' = ns ++ [⟨k, s, h.length, 0⟩] ∧ ∀ r ∈ ns, ¬ r.is k s)) := by
  rcases kid_cases ns k s with ⟨hnil, hno⟩ | ⟨r, hr, hi, hkd⟩
  · -- a new one
    rcases hat with ⟨rfl, hk, rfl, rfl⟩ | ⟨r, hr, x, rfl, rfl, rfl, rfl⟩
    · have hk2 : (off = 0 ∧ kidD ns 0 [] = .nilp) ∨ (off = 1 ∧ kidD ns 1 [] = .nilp) := by
        rcases (by omega : off = 0 ∨ off = 1) with rfl | rfl
        · exact .inl ⟨rfl, hnil⟩
        · exact .inr ⟨rfl, hnil⟩
      refine (grow_root h B off ns.length (kidD ns 0 []) (kidD ns 1 []) _ hk2 t.box hn).mono ?_
      rintro d h' ⟨rfl, rfl⟩
      have hTl := lt_of_get t.box
      refine ⟨_, t.add hno (.inl rfl) (Nat.le_refl _) (fun i b hb hne _ => ?_) ?_ (fun r hr x h1 h2 => by simp at h2) ?_, ⟨by simp, fun i b hb hne _ => ?_⟩, ⟨⟨off, [], h.length, 0⟩, by simp, ⟨rfl, rfl⟩, rfl⟩, .inr ⟨rfl, hno⟩⟩
      · rw [List.getElem?_append_left (by rw [List.length_set]; exact lt_of_get hb), List.getElem?_set_ne (Ne.symm hne)]; exact hb
      · rw [List.getElem?_append_left (by simpa using hTl), List.getElem?_set_self hTl]
        rcases hk2 with ⟨rfl, _⟩ | ⟨rfl, _⟩
        · rw [kid_new hno, kid_snoc (k := 1) (by simp [Nd.is])]; rfl
        · rw [kid_new hno, kid_snoc (k := 0) (by simp [Nd.is])]; rfl
      · rw [List.getElem?_append_right (by simp), List.length_set, Nat.sub_self]; rfl
      · rw [List.getElem?_append_left (by rw [List.length_set]; exact lt_of_get hb), List.getElem?_set_ne (Ne.symm hne)]; exact hb
    · have hnd := t.nd r hr
      have hneT := t.tb r hr
      have hrl := lt_of_get hnd
      have hTl := lt_of_get t.box
      have hoff : 1 + x.toNat < [endD (E r.k r.s) r.e, kidD ns r.k (r.s ++ [false]), kidD ns r.k (r.s ++ [true])].length := by cases x <;> simp
      have hv : ([endD (E r.k r.s) r.e, kidD ns r.k (r.s ++ [false]), kidD ns r.k (r.s ++ [true])].drop (1 + x.toNat))[0]? = some .nilp := by
        cases x
        · exact congrArg some hnil
        · exact congrArg some hnil
      refine (grow_new h T r.b (1 + x.toNat) ns.length _ _ _ _ hneT hnd hoff hv t.box hn).mono ?_
      rintro d h' ⟨rfl, rfl⟩
      have hne0 : ∀ k', ¬ (⟨r.k, r.s ++ [x], h.length, 0⟩ : Nd).is k' [] := fun k' h => by have := h.2; simp at this
      refine ⟨_, t.add hno (.inr ⟨r.s, x, rfl, r, hr, rfl, rfl⟩) (Nat.le_refl _) (fun i b hb hne hpar => ?_) ?_ (fun r' hr' x' h1 h2 => ?_) ?_, ⟨by simp, fun i b hb hne hnb => ?_⟩, ⟨⟨r.k, r.s ++ [x], h.length, 0⟩, by simp, ⟨rfl, rfl⟩, rfl⟩, .inr ⟨rfl, hno⟩⟩
      · have : i ≠ r.b := fun h => hpar r hr h.symm x ⟨rfl, rfl⟩
        rw [List.getElem?_append_left (by simpa using lt_of_get hb), List.getElem?_set_ne (Ne.symm hne), List.getElem?_set_ne (Ne.symm this)]; exact hb
      · rw [List.getElem?_append_left (by simpa using hTl), List.getElem?_set_self (by simpa using hTl), kid_snoc (hne0 0), kid_snoc (hne0 1)]
      · have hss := List.append_inj' h2 rfl
        have : r' = r := t.keys r' hr' r hr h1 hss.1.symm
        subst this
        rw [List.getElem?_append_left (by simpa using hrl), List.getElem?_set_ne (Ne.symm hneT), List.getElem?_set_self hrl]
        have hoth : ¬ (⟨r'.k, r'.s ++ [x], h.length, 0⟩ : Nd).is r'.k (r'.s ++ [!x]) := fun h => by
          have := List.append_inj' h.2 rfl
          cases x <;> simp at this
        cases x
        · simp only [Bool.not_false] at hoth
          rw [kid_new hno, kid_snoc hoth]; rfl
        · simp only [Bool.not_true] at hoth
          rw [kid_new hno, kid_snoc hoth]; rfl
      · rw [List.getElem?_append_right (by simp), List.length_set, List.length_set, Nat.sub_self]; rfl
      · rw [List.getElem?_append_left (by simpa using lt_of_get hb), List.getElem?_set_ne (Ne.symm hne), List.getElem?_set_ne (hnb r hr)]; exact hb
  · -- it is there
    have hy := t.nd r hr
    have main : ∀ cs, h[B]? = some (.box cs) → (cs.drop off)[0]? = some (.ref r.b 0) → FC Try.prog 36 [.ref T 0, .ref B off] h fun d h' => ∃ ns', TrieAt h' T ns' E many ∧ Keeps ns T h h' ∧ (∃ r ∈ ns', r.is k s ∧ d = .ref r.b 0) ∧
      (ns' = ns ∨ (ns' = ns ++ [⟨k, s, h.length, 0⟩] ∧ ∀ r ∈ ns, ¬ r.is k s)) := fun cs hB hv => by
      refine (grow_there h T B off r.b cs _ hB hv hy).mono ?_
      rintro d h' ⟨rfl, rfl⟩
      exact ⟨ns, t, Keeps.refl _ _ _, ⟨r, hr, hi, rfl⟩, .inl rfl⟩
    rcases hat with ⟨rfl, hk, rfl, rfl⟩ | ⟨r0, hr0, x, rfl, rfl, rfl, rfl⟩
    · refine main _ t.box ?_
      rcases (by omega : off = 0 ∨ off = 1) with rfl | rfl
      · exact congrArg some hkd
      · exact congrArg some hkd
    · refine main _ (t.nd r0 hr0) ?_
      cases x
      · exact congrArg some hkd
      · exact congrArg some hkd

/-! ### An end more -/
def endTo (ns : List Nd) (k : Nat) (s : List Bool) (e' : Nat) : List Nd := ns.map fun q => if q.is k s then { q with e := e' } else q
theorem endTo_is {ns : List Nd} {k e' : Nat} {s : List Bool} {q : Nd} (h : q ∈ endTo ns k s e') : ∃ q0 ∈ ns, q.k = q0.k ∧ q.s = q0.s ∧ q.b = q0.b ∧ ((q0.is k s ∧ q.e = e') ∨ (¬ q0.is k s ∧ q = q0)) := by
  obtain ⟨q0, h1, rfl⟩ := List.mem_map.1 h
  refine ⟨q0, h1, ?_⟩
  by_cases hq : q0.is k s
  · simp only [if_pos hq]
    exact ⟨trivial, trivial, trivial, .inl ⟨hq, trivial⟩⟩
  · simp only [if_neg hq]
    exact ⟨trivial, trivial, trivial, .inr ⟨hq, trivial⟩⟩
theorem endTo_mem {ns : List Nd} {k e' : Nat} {s : List Bool} {q0 : Nd} (h : q0 ∈ ns) : ∃ q ∈ endTo ns k s e', q.k = q0.k ∧ q.s = q0.s ∧ q.b = q0.b := by
  refine ⟨_, List.mem_map.2 ⟨q0, h, rfl⟩, ?_⟩
  split <;> exact ⟨rfl, rfl, rfl⟩
theorem endTo_kid (ns : List Nd) (k e' : Nat) (s : List Bool) (k' : Nat) (s' : List Bool) : kidD (endTo ns k s e') k' s' = kidD ns k' s' := by
  unfold kidD endTo
  induction ns with
  | nil => rfl
  | cons q ns ih =>
    simp only [List.map_cons, List.find?_cons]
    by_cases hq : q.is k s
    · simp only [if_pos hq]
      by_cases h2 : q.is k' s'
      · have h3 : (⟨q.k, q.s, q.b, e'⟩ : Nd).is k' s' := h2
        simp only [h2, h3, decide_true]
      · have h3 : ¬ (⟨q.k, q.s, q.b, e'⟩ : Nd).is k' s' := h2
        simp only [h2, h3, decide_false]
        exact ih
    · simp only [if_neg hq]
      by_cases h2 : q.is k' s'
      · simp only [h2, decide_true]
      · simp only [h2, decide_false]
        exact ih
def addE' (E : Nat → List Bool → List Nat) (k : Nat) (s : List Bool) (i : Nat) : Nat → List Bool → List Nat := fun k' s' => if k' = k ∧ s' = s then E k' s' ++ [i] else E k' s'
theorem TrieAt.putEnd {Hp H2 : Heap} {T many i e' : Nat} {ns : List Nd} {E : Nat → List Bool → List Nat} (t : TrieAt Hp T ns E many) {r : Nd} (hr : r ∈ ns)
    (he : (E r.k r.s = [] ∧ Hp.length ≤ e') ∨ (E r.k r.s ≠ [] ∧ e' = r.e))
    (keep : ∀ j b, Hp[j]? = some b → j ≠ r.b → j ≠ e' → H2[j]? = some b)
    (hb : H2[r.b]? = some (.box [.own e' ((E r.k r.s).length + 1), kidD ns r.k (r.s ++ [false]), kidD ns r.k (r.s ++ [true])]))
    (hE : H2[e']? = some (.grow 1 (i64s (E r.k r.s ++ [i])) ((E r.k r.s).length + 1))) : TrieAt H2 T (endTo ns r.k r.s e') (addE' E r.k r.s i) many := by
  have hnew : addE' E r.k r.s i r.k r.s = E r.k r.s ++ [i] := by simp [addE']
  have hold : ∀ {k' s'}, ¬ (k' = r.k ∧ s' = r.s) → addE' E r.k r.s i k' s' = E k' s' := fun h => by simp only [addE', if_neg h]
  have hrb := t.nd r hr
  -- e' is no block of another node's
  have hne1 : ∀ q ∈ ns, q.b ≠ e' := fun q hq h => by
    have hq1 := t.nd q hq
    rcases he with ⟨_, hl⟩ | ⟨h0, rfl⟩
    · have := lt_of_get hq1; omega
    · have := t.en r hr h0
      rw [h, this] at hq1; cases hq1
  have hneT : T ≠ e' := fun h => by
    have hq1 := t.box
    rcases he with ⟨_, hl⟩ | ⟨h0, rfl⟩
    · have := lt_of_get hq1; omega
    · have := t.en r hr h0
      rw [h, this] at hq1; cases hq1
  have isr : ∀ {q}, q ∈ ns → q.is r.k r.s → q = r := fun hq h => t.keys _ hq r hr h.1 h.2
  refine ⟨?_, ?_, ?_, ?_, ?_, ?_, ?_, ?_, ?_, ?_⟩
  · rw [endTo_kid, endTo_kid, show (endTo ns r.k r.s e').length = ns.length by simp [endTo]]
    exact keep _ _ t.box (Ne.symm (t.tb r hr)) hneT
  · intro q hq
    obtain ⟨q0, h0, h1, h2, h3, hc⟩ := endTo_is hq
    rw [endTo_kid, endTo_kid, h1, h2, h3]
    rcases hc with ⟨hi, hqe⟩ | ⟨hi, rfl⟩
    · have := isr h0 hi
      subst this
      rw [hnew, hqe]
      have : endD (E q0.k q0.s ++ [i]) e' = .own e' ((E q0.k q0.s).length + 1) := by simp [endD]
      rw [this]; exact hb
    · rw [hold (fun h => hi h)]
      refine keep _ _ (t.nd q h0) (fun h => hi ?_) (hne1 q h0)
      have := t.blks q h0 r hr h
      subst this; exact ⟨rfl, rfl⟩
  · intro q hq hne
    obtain ⟨q0, h0, h1, h2, h3, hc⟩ := endTo_is hq
    rw [h1, h2] at hne ⊢
    rcases hc with ⟨hi, hqe⟩ | ⟨hi, rfl⟩
    · have := isr h0 hi
      subst this
      rw [hnew, hqe, List.length_append]; exact hE
    · rw [hold (fun h => hi h)] at hne ⊢
      have hen := t.en q h0 hne
      refine keep _ _ hen (fun h => ?_) (fun h => ?_)
      · rw [h, hrb] at hen; cases hen
      · rcases he with ⟨_, hl⟩ | ⟨h00, rfl⟩
        · have := lt_of_get hen; omega
        · have := t.eblk q h0 r hr hne h00 h
          subst this; exact hi ⟨rfl, rfl⟩
  · intro q hq
    obtain ⟨q0, h0, h1, h2, h3, hc⟩ := endTo_is hq
    rw [h3]; exact t.tb q0 h0
  · intro q hq q' hq' g1 g2
    obtain ⟨q0, rfl, h0, -⟩ : ∃ q0, q = (if q0.is r.k r.s then { q0 with e := e' } else q0) ∧ q0 ∈ ns ∧ True := by
      obtain ⟨q0, h1, h2⟩ := List.mem_map.1 hq
      exact ⟨q0, h2.symm, h1, trivial⟩
    obtain ⟨q1, rfl, h1, -⟩ : ∃ q0, q' = (if q0.is r.k r.s then { q0 with e := e' } else q0) ∧ q0 ∈ ns ∧ True := by
      obtain ⟨q0, h1, h2⟩ := List.mem_map.1 hq'
      exact ⟨q0, h2.symm, h1, trivial⟩
    have : q0 = q1 := t.keys q0 h0 q1 h1 (by revert g1; split <;> split <;> exact id) (by revert g2; split <;> split <;> exact id)
    rw [this]
  · intro q hq q' hq' g1
    obtain ⟨q0, rfl, h0, -⟩ : ∃ q0, q = (if q0.is r.k r.s then { q0 with e := e' } else q0) ∧ q0 ∈ ns ∧ True := by
      obtain ⟨q0, h1, h2⟩ := List.mem_map.1 hq
      exact ⟨q0, h2.symm, h1, trivial⟩
    obtain ⟨q1, rfl, h1, -⟩ : ∃ q0, q' = (if q0.is r.k r.s then { q0 with e := e' } else q0) ∧ q0 ∈ ns ∧ True := by
      obtain ⟨q0, h1, h2⟩ := List.mem_map.1 hq'
      exact ⟨q0, h2.symm, h1, trivial⟩
    have : q0 = q1 := t.blks q0 h0 q1 h1 (by revert g1; split <;> split <;> exact id)
    rw [this]
  · intro q hq q' hq' n1 n2 g
    obtain ⟨q0, h0, a1, a2, a3, hc⟩ := endTo_is hq
    obtain ⟨q1, h1, b1, b2, b3, hd⟩ := endTo_is hq'
    have fin : q0 = q1 → q = q' := fun h => by
      subst h
      rcases hc with ⟨c1, c2⟩ | ⟨c1, c2⟩ <;> rcases hd with ⟨d1, d2⟩ | ⟨d1, d2⟩
      · cases q; cases q'; simp_all
      · exact absurd c1 d1
      · exact absurd d1 c1
      · rw [c2, d2]
    rw [a1, a2] at n1
    rw [b1, b2] at n2
    rcases hc with ⟨c1, c2⟩ | ⟨c1, rfl⟩ <;> rcases hd with ⟨d1, d2⟩ | ⟨d1, rfl⟩
    · exact fin ((isr h0 c1).trans (isr h1 d1).symm)
    · exfalso
      rw [hold (fun h => d1 h)] at n2
      have hen := t.en q' h1 n2
      rw [c2] at g
      rcases he with ⟨_, hl⟩ | ⟨h00, h01⟩
      · have := lt_of_get hen; omega
      · have := t.eblk q' h1 r hr n2 h00 (by rw [← g, h01])
        subst this; exact d1 ⟨rfl, rfl⟩
    · exfalso
      rw [hold (fun h => c1 h)] at n1
      have hen := t.en q h0 n1
      rw [d2] at g
      rcases he with ⟨_, hl⟩ | ⟨h00, h01⟩
      · have := lt_of_get hen; omega
      · have := t.eblk q h0 r hr n1 h00 (by rw [g, h01])
        subst this; exact c1 ⟨rfl, rfl⟩
    · rw [hold (fun h => c1 h)] at n1
      rw [hold (fun h => d1 h)] at n2
      exact t.eblk q h0 q' h1 n1 n2 g
  · unfold endTo
    refine List.Pairwise.map _ (fun a b hab => ?_) (List.Pairwise.and_mem.1 t.nodup)
    obtain ⟨ha, hb', hne⟩ := hab
    intro h
    apply hne
    refine t.keys a ha b hb' ?_ ?_
    · have := congrArg Nd.k h
      revert this; split <;> split <;> exact id
    · have := congrArg Nd.s h
      revert this; split <;> split <;> exact id
  · intro k' s' h
    have h' : ∀ q ∈ ns, ¬ q.is k' s' := fun q hq hi => by
      obtain ⟨q2, m1, m2, m3, m4⟩ := endTo_mem (k := r.k) (s := r.s) (e' := e') hq
      exact h q2 m1 ⟨m2.trans hi.1, m3.trans hi.2⟩
    rw [hold (fun hh => h' r hr ⟨hh.1.symm, hh.2.symm⟩)]
    exact t.non k' s' h'
  · intro q hq s' x hs
    obtain ⟨q0, h0, h1, h2, h3, _⟩ := endTo_is hq
    rw [h2] at hs
    obtain ⟨q1, m1, m2⟩ := t.shut q0 h0 s' x hs
    obtain ⟨q2, n1, n2, n3, n4⟩ := endTo_mem (k := r.k) (s := r.s) (e' := e') m1
    exact ⟨q2, n1, by rw [n2, m2.1, h1], by rw [n3, m2.2]⟩
end Go.Proofs

/-
  Own work. The walk of trie: put.
-/
namespace Go.Proofs
open Go Go.Ytecmopdncgekhaa
set_option linter.unusedVariables false
set_option linter.unusedSimpArgs false
set_option maxRecDepth 10000

/-- The first bits of an address. -/
def pathA (a : List UInt8) (d : Nat) : List Bool := (List.range d).map (abit a)
theorem pathA_succ (a : List UInt8) (d : Nat) : pathA a (d + 1) = pathA a d ++ [abit a d] := by
  unfold pathA; rw [List.range_succ, List.map_append]; rfl
theorem pathA_len (a : List UInt8) (d : Nat) : (pathA a d).length = d := by simp [pathA]
/-- A block that is none of the trie's. -/
def FreeN (ns : List Nd) (E : Nat → List Bool → List Nat) (T i : Nat) : Prop := i ≠ T ∧ (∀ r ∈ ns, r.b ≠ i) ∧ ∀ r ∈ ns, E r.k r.s ≠ [] → r.e ≠ i
/-- What is none of the trie's stays, and stays none of the trie's. -/
def Keep2 (T : Nat) (ns : List Nd) (E : Nat → List Bool → List Nat) (h : Heap) (ns' : List Nd) (E' : Nat → List Bool → List Nat) (h' : Heap) : Prop :=
  h.length ≤ h'.length ∧ ∀ i b, h[i]? = some b → FreeN ns E T i → h'[i]? = some b ∧ FreeN ns' E' T i
theorem Keep2.refl {T : Nat} {ns : List Nd} {E : Nat → List Bool → List Nat} {h : Heap} : Keep2 T ns E h ns E h := ⟨Nat.le_refl _, fun _ _ h f => ⟨h, f⟩⟩
theorem Keep2.trans {T : Nat} {n1 n2 n3 : List Nd} {E1 E2 E3 : Nat → List Bool → List Nat} {h1 h2 h3 : Heap} (a : Keep2 T n1 E1 h1 n2 E2 h2) (b : Keep2 T n2 E2 h2 n3 E3 h3) : Keep2 T n1 E1 h1 n3 E3 h3 :=
  ⟨Nat.le_trans a.1 b.1, fun i x h f => by obtain ⟨h', f'⟩ := a.2 i x h f; exact b.2 i x h' f'⟩
theorem Keep2.ext {T : Nat} {ns : List Nd} {E : Nat → List Bool → List Nat} {h h' : Heap} (e : Ext h h') : Keep2 T ns E h ns E h' := by
  obtain ⟨L, rfl⟩ := e
  exact ⟨by simp, fun i b hb f => ⟨(Ext.app (Ext.refl h) L).get hb, f⟩⟩
theorem grow_keep {h h' : Heap} {T k many : Nat} {s : List Bool} {ns ns' : List Nd} {E : Nat → List Bool → List Nat} (t : TrieAt h T ns E many) (hk : Keeps ns T h h')
    (hn : ns' = ns ∨ (ns' = ns ++ [⟨k, s, h.length, 0⟩] ∧ ∀ r ∈ ns, ¬ r.is k s)) : Keep2 T ns E h ns' E h' := by
  refine ⟨hk.1, fun i b hb f => ⟨hk.2 i b hb f.1 f.2.1, ?_⟩⟩
  rcases hn with rfl | ⟨rfl, hno⟩
  · exact f
  · have hl := lt_of_get hb
    refine ⟨f.1, fun r hr => ?_, fun r hr he => ?_⟩
    · rcases List.mem_append.1 hr with hr | hr
      · exact f.2.1 r hr
      · simp only [List.mem_singleton] at hr
        subst hr
        simp only; omega
    · rcases List.mem_append.1 hr with hr | hr
      · exact f.2.2 r hr he
      · simp only [List.mem_singleton] at hr
        subst hr
        exact absurd (t.non k s hno) he
theorem grow_keys {h' : Heap} {n0 k : Nat} {s : List Bool} {ns ns' : List Nd} {d : D} (hi : ∃ r ∈ ns', r.is k s ∧ d = .ref r.b 0)
    (hn : ns' = ns ∨ (ns' = ns ++ [⟨k, s, n0, 0⟩] ∧ ∀ r ∈ ns, ¬ r.is k s)) (k' : Nat) (s' : List Bool) : (∃ r ∈ ns', r.is k' s') ↔ (∃ r ∈ ns, r.is k' s') ∨ (k' = k ∧ s' = s) := by
  constructor
  · rintro ⟨r, hr, hi'⟩
    rcases hn with rfl | ⟨rfl, hno⟩
    · exact .inl ⟨r, hr, hi'⟩
    · rcases List.mem_append.1 hr with hr | hr
      · exact .inl ⟨r, hr, hi'⟩
      · simp only [List.mem_singleton] at hr
        subst hr
        exact .inr ⟨hi'.1.symm, hi'.2.symm⟩
  · rintro (⟨r, hr, hi'⟩ | ⟨rfl, rfl⟩)
    · rcases hn with rfl | ⟨rfl, hno⟩
      · exact ⟨r, hr, hi'⟩
      · exact ⟨r, List.mem_append_left _ hr, hi'⟩
    · obtain ⟨r, hr, hi', _⟩ := hi
      exact ⟨r, hr, hi'⟩
theorem endTo_keys (ns : List Nd) (k e' : Nat) (s : List Bool) (k' : Nat) (s' : List Bool) : (∃ r ∈ endTo ns k s e', r.is k' s') ↔ ∃ r ∈ ns, r.is k' s' := by
  constructor
  · rintro ⟨r, hr, hi⟩
    obtain ⟨q, h0, h1, h2, _⟩ := endTo_is hr
    exact ⟨q, h0, h1.symm.trans hi.1, h2.symm.trans hi.2⟩
  · rintro ⟨r, hr, hi⟩
    obtain ⟨q, h0, h1, h2, _⟩ := endTo_mem (k := k) (s := s) (e' := e') hr
    exact ⟨q, h0, h1.trans hi.1, h2.trans hi.2⟩
theorem putEnd_keep {Hp H2 : Heap} {T many i e' : Nat} {ns : List Nd} {E : Nat → List Bool → List Nat} (t : TrieAt Hp T ns E many) {r : Nd} (hr : r ∈ ns)
    (he : (E r.k r.s = [] ∧ Hp.length ≤ e') ∨ (E r.k r.s ≠ [] ∧ e' = r.e)) (hl : Hp.length ≤ H2.length)
    (keep : ∀ j b, Hp[j]? = some b → j ≠ r.b → j ≠ e' → H2[j]? = some b) : Keep2 T ns E Hp (endTo ns r.k r.s e') (addE' E r.k r.s i) H2 := by
  refine ⟨hl, fun j b hb f => ?_⟩
  have hje : j ≠ e' := fun h => by
    rcases he with ⟨_, hl⟩ | ⟨h0, rfl⟩
    · have := lt_of_get hb; omega
    · exact f.2.2 r hr h0 h.symm
  refine ⟨keep j b hb (fun h => f.2.1 r hr h.symm) hje, f.1, fun q hq => ?_, fun q hq hne => ?_⟩
  · obtain ⟨q0, h0, h1, h2, h3, hc⟩ := endTo_is hq
    rw [h3]; exact f.2.1 q0 h0
  · obtain ⟨q0, h0, h1, h2, h3, hc⟩ := endTo_is hq
    rcases hc with ⟨_, hqe⟩ | ⟨hni, rfl⟩
    · rw [hqe]; exact Ne.symm hje
    · refine f.2.2 q h0 ?_
      simp only [addE'] at hne
      rw [if_neg (show ¬ (q.k = r.k ∧ q.s = r.s) from hni)] at hne
      exact hne
theorem root_lt (v : Int) : rootN v < 2 := by unfold rootN; split <;> omega
theorem Pf.drop17 {p : Pf} (h : p.a.length = 16) : (p.cells.drop 17)[0]? = some (.int .i64 p.n) :=
  cells_n h (List.take_of_length_le (by rw [Pf.cells_length h]; omega))
theorem Pf.addr {p : Pf} (h : p.a.length = 16) : (p.cells.drop 1).take 16 = ofBytes p.a := by
  have h2 : (ofBytes p.a).length = 16 := by rw [ofBytes_length, h]
  rw [Pf.cells, List.drop_succ_cons, List.drop_zero, List.take_append_of_le_length (by omega), List.take_of_length_le (by omega)]

theorem put_fc (h : Heap) (T many : Nat) (ns : List Nd) (E : Nat → List Bool → List Nat) (t : TrieAt h T ns E many) (p : Pf) (ha : p.a.length = 16) (m : Nat) (hn : p.n = (m : Int)) (hm : m ≤ 128)
    (hlen : ns.length ≤ 900000) (i : Nat) (hi : i ≤ 1000000) (hE : (E (rootN p.v) (pathA p.a m)).length ≤ 1000000) :
    FC Try.prog 22 [.ref T 0, .agg p.cells, .int .i64 (i : Int)] h fun _ h' => ∃ ns', TrieAt h' T ns' (addE' E (rootN p.v) (pathA p.a m) i) many ∧ Keep2 T ns E h ns' (addE' E (rootN p.v) (pathA p.a m) i) h' ∧
      ns'.length ≤ ns.length + (m + 1) ∧ ∀ k s, (∃ r ∈ ns', r.is k s) ↔ (∃ r ∈ ns, r.is k s) ∨ (k = rootN p.v ∧ ∃ d ≤ m, s = pathA p.a d) := by
  have hc18 := Pf.cells_length ha
  have hc0 : (p.cells.drop 0)[0]? = some (.int .i64 p.v) := rfl
  have hc0' : p.cells[0]? = some (.int .i64 p.v) := rfl
  have hc17 := Pf.drop17 ha
  have hca := Pf.addr ha
  have hal2 : (ofBytes p.a).length = 16 := by rw [ofBytes_length, ha]
  have hl1 : 16 ≤ (p.cells.drop 1).length := by rw [List.length_drop, hc18]; omega
  have hone : p.cells.all D.one = true := by
    rw [Pf.cells, List.all_cons, pr_one]; rfl
  refine FC.goes cf22 ?_; simp only [c22]; simp only [List.length_cons, List.length_nil, Nat.reduceAdd, Nat.reduceSub, List.replicate_succ, List.replicate_zero, List.cons_append, List.nil_append]
  simp (disch := first | omega | (simp only [List.length_append, List.length_cons, List.length_nil]; omega)) only [c22r0, c22r1, c22r2, c22r3, c22r4, c22r5, c22r6, c22r7, c22r8, c22l9, c22r10, hc0, hc0', hone, go_sem, ↓reduceIte, reduceCtorEq, Nat.reduceAdd, Nat.reduceSub, Nat.reducePow, Nat.reduceMul, Nat.reduceEqDiff, Nat.reduceLT, Nat.reduceLeDiff, Int.reduceToNat, Int.reduceLT, Int.reduceLE, Int.reduceEq, Int.reduceNeg, Int.reduceAdd, Int.reduceSub, Int.reduceMul]
  have E0 : Ext h (h ++ [.box p.cells]) := ⟨_, rfl⟩
  have bA := last_get h (.box p.cells)
  have t0 := t
  have t := t.ext E0
  have K0 : Keep2 T ns E h ns E (h ++ [.box p.cells]) := Keep2.ext E0
  have fP : FreeN ns E T h.length := ⟨fun e => by have := lt_of_get t0.box; omega, fun r hr e => by have := lt_of_get (t0.nd r hr); omega, fun r hr hne e => by have := lt_of_get (t0.en r hr hne); omega⟩
  generalize h ++ [.box p.cells] = h1 at *
  generalize h.length = P at *
  refine gfc_of (root_fc _ p.v) ?_
  rintro d h' ⟨rfl, e⟩
  rw [e]
  have hk2 := root_lt p.v
  have hk2' : (rootN p.v : Int) < 2 := by omega
  have hT := t.box
  simp (disch := first | omega | (simp only [List.length_append, List.length_cons, List.length_nil]; omega)) only [hk2, hk2', hT, go_sem, ↓reduceIte, reduceCtorEq, Nat.reduceAdd, Nat.reduceSub, Nat.reducePow, Nat.reduceMul, Nat.reduceEqDiff, Nat.reduceLT, Nat.reduceLeDiff, Int.reduceToNat, Int.reduceLT, Int.reduceLE, Int.reduceEq, Int.reduceNeg, Int.reduceAdd, Int.reduceSub, Int.reduceMul]
  refine gfc_of (tgrow_fc h1 T T (rootN p.v) (rootN p.v) many [] ns E t (by omega) (.inl ⟨rfl, hk2, rfl, rfl⟩)) ?_
  rintro d h2 ⟨ns2, t2, k2, ⟨r2, hr2, hi2, rfl⟩, hc2⟩
  have K2 := grow_keep t k2 hc2
  have L2 : ns2.length ≤ ns.length + 1 := by rcases hc2 with rfl | ⟨rfl, _⟩ <;> simp
  have Y2 := grow_keys (h' := h2) ⟨r2, hr2, hi2, rfl⟩ hc2
  obtain ⟨bP2, fP2⟩ := K2.2 P _ bA fP
  simp (disch := first | omega | (simp only [List.length_append, List.length_cons, List.length_nil]; omega)) only [bP2, hc17, go_sem, ↓reduceIte, reduceCtorEq, Nat.reduceAdd, Nat.reduceSub, Nat.reducePow, Nat.reduceMul, Nat.reduceEqDiff, Nat.reduceLT, Nat.reduceLeDiff, Int.reduceToNat, Int.reduceLT, Int.reduceLE, Int.reduceEq, Int.reduceNeg, Int.reduceAdd, Int.reduceSub, Int.reduceMul]
  refine loop_to m (fun d st => ∃ (H : Heap) (ns' : List Nd) (r : Nd), TrieAt H T ns' E many ∧ Keep2 T ns E h1 ns' E H ∧ ns'.length ≤ ns.length + (d + 1) ∧ (∀ k s, (∃ r ∈ ns', r.is k s) ↔ (∃ r ∈ ns, r.is k s) ∨ (k = rootN p.v ∧ ∃ x ≤ d, s = pathA p.a x)) ∧ r ∈ ns' ∧ r.is (rootN p.v) (pathA p.a d) ∧
    ∃ (j : Nat → D), st = ⟨(.ref T 0 :: j 1 :: .int .i64 (i : Int) :: j 3 :: .ref P 0 :: j 5 :: j 6 :: j 7 :: .ref r.b 0 :: j 9 :: j 10 :: j 11 :: j 12 :: j 13 :: j 14 :: j 15 :: j 16 :: j 17 :: j 18 :: j 19 :: j 20 :: j 21 :: j 22 :: j 23 :: .int .i64 p.n :: .int .i64 (d : Int) :: j 26 :: j 27 :: j 28 :: j 29 :: j 30 :: j 31 :: j 32 :: j 33 :: j 34 :: j 35 :: j 36 :: j 37 :: j 38 :: j 39 :: j 40 :: j 41 :: j 42 :: j 43 :: j 44 :: j 45 :: j 46 :: j 47 :: j 48 :: []), H⟩) ⟨h2, ns2, r2, t2, K2, L2, fun k s => ?_, hr2, hi2, junk rfl⟩ ?_
  · rw [Y2]
    refine or_congr Iff.rfl ⟨fun h => ⟨h.1, 0, Nat.le_refl _, h.2⟩, fun ⟨h1, x, hx, h2⟩ => ⟨h1, ?_⟩⟩
    rw [h2, show x = 0 by omega]; rfl
  rintro d st hd ⟨H, ns3, r, t3, K3, L3, Y3, hr, hri, j, rfl⟩
  obtain ⟨bP3, fP3⟩ := K3.2 P _ bA fP
  have hrb := t3.nd r hr
  by_cases hdm : d < m
  · have hdm' : (d : Int) < p.n := by omega
    have e5 : IntKind.i64.wrap ((d : Int) + 1) = ((d + 1 : Nat) : Int) := by rw [w_i64 (by omega) (by omega)]; omega
    simp (disch := first | omega | (simp only [List.length_append, List.length_cons, List.length_nil]; omega)) only [c22r0, c22r1, c22r2, c22r3, c22r4, c22r5, c22r6, c22r7, c22r8, c22l9, c22r10, hdm', bP3, hca, hal2, hl1, hrb, go_sem, ↓reduceIte, reduceCtorEq, Nat.reduceAdd, Nat.reduceSub, Nat.reducePow, Nat.reduceMul, Nat.reduceEqDiff, Nat.reduceLT, Nat.reduceLeDiff, Int.reduceToNat, Int.reduceLT, Int.reduceLE, Int.reduceEq, Int.reduceNeg, Int.reduceAdd, Int.reduceSub, Int.reduceMul]
    refine xfc_of (tbit_fc _ p.a ha d (by omega)) ?_
    rintro d2 h' ⟨rfl, e⟩
    refine ⟨⟨[], by rw [e, List.append_nil]⟩, ?_⟩
    rw [e]
    have hb2 : (bitN p.a d : Int) < 2 := by have : bitN p.a d < 2 := Nat.mod_lt _ (by omega); omega
    simp (disch := first | omega | (simp only [List.length_append, List.length_cons, List.length_nil]; omega)) only [hb2, hrb, go_sem, ↓reduceIte, reduceCtorEq, Nat.reduceAdd, Nat.reduceSub, Nat.reducePow, Nat.reduceMul, Nat.reduceEqDiff, Nat.reduceLT, Nat.reduceLeDiff, Int.reduceToNat, Int.reduceLT, Int.reduceLE, Int.reduceEq, Int.reduceNeg, Int.reduceAdd, Int.reduceSub, Int.reduceMul]
    have hloc : AtLoc ns3 T (rootN p.v) (pathA p.a (d + 1)) r.b (1 + bitN p.a d) := by
      refine .inr ⟨r, hr, abit p.a d, hri.1, ?_, rfl, ?_⟩
      · rw [pathA_succ, hri.2]
      · rw [bitN_eq]; cases abit p.a d <;> rfl
    refine gfc_of (tgrow_fc H T r.b (1 + bitN p.a d) (rootN p.v) many (pathA p.a (d + 1)) ns3 E t3 (by omega) hloc) ?_
    rintro d3 h4 ⟨ns4, t4, k4, ⟨r4, hr4, hi4, rfl⟩, hc4⟩
    have K4 := K3.trans (grow_keep t3 k4 hc4)
    have L4 : ns4.length ≤ ns3.length + 1 := by rcases hc4 with rfl | ⟨rfl, _⟩ <;> simp
    have Y4 := grow_keys (h' := h4) ⟨r4, hr4, hi4, rfl⟩ hc4
    simp (disch := first | omega | (simp only [List.length_append, List.length_cons, List.length_nil]; omega)) only [e5, go_sem, ↓reduceIte, reduceCtorEq, Nat.reduceAdd, Nat.reduceSub, Nat.reducePow, Nat.reduceMul, Nat.reduceEqDiff, Nat.reduceLT, Nat.reduceLeDiff, Int.reduceToNat, Int.reduceLT, Int.reduceLE, Int.reduceEq, Int.reduceNeg, Int.reduceAdd, Int.reduceSub, Int.reduceMul]
    refine ⟨hdm, h4, ns4, r4, t4, K4, by omega, fun k s => ?_, hr4, hi4, junk rfl⟩
    rw [Y4, Y3, or_assoc]
    refine or_congr Iff.rfl ⟨?_, ?_⟩
    · rintro (⟨g1, x, g2, g3⟩ | ⟨g1, g2⟩)
      · exact ⟨g1, x, by omega, g3⟩
      · exact ⟨g1, d + 1, Nat.le_refl _, g2⟩
    · rintro ⟨g1, x, g2, g3⟩
      by_cases hx : x = d + 1
      · exact .inr ⟨g1, by rw [g3, hx]⟩
      · exact .inl ⟨g1, x, by omega, g3⟩
  · have : d = m := by omega
    subst this
    have hdm' : ¬ (d : Int) < p.n := by omega
    have hrl := lt_of_get hrb
    have hEk : E r.k r.s = E (rootN p.v) (pathA p.a d) := by rw [hri.1, hri.2]
    have hE' := hEk ▸ hE
    obtain ⟨rfl', rfs⟩ := hri
    have fin : ∀ (e' : Nat) (H2 : Heap), ((E r.k r.s = [] ∧ H.length ≤ e') ∨ (E r.k r.s ≠ [] ∧ e' = r.e)) → H.length ≤ H2.length →
        (∀ j b, H[j]? = some b → j ≠ r.b → j ≠ e' → H2[j]? = some b) →
        H2[r.b]? = some (.box [.own e' ((E r.k r.s).length + 1), kidD ns3 r.k (r.s ++ [false]), kidD ns3 r.k (r.s ++ [true])]) →
        H2[e']? = some (.grow 1 (i64s (E r.k r.s ++ [i])) ((E r.k r.s).length + 1)) →
        ∃ ns', TrieAt H2 T ns' (addE' E (rootN p.v) (pathA p.a d) i) many ∧ Keep2 T ns E h ns' (addE' E (rootN p.v) (pathA p.a d) i) H2 ∧
          ns'.length ≤ ns.length + (d + 1) ∧ ∀ k s, (∃ r ∈ ns', r.is k s) ↔ (∃ r ∈ ns, r.is k s) ∨ (k = rootN p.v ∧ ∃ x ≤ d, s = pathA p.a x) := by
      intro e' H2 he hl keep hb hE2
      have q1 := t3.putEnd hr he keep hb hE2
      have q2 := putEnd_keep (i := i) t3 hr he hl keep
      rw [rfl', rfs] at q1 q2
      refine ⟨_, q1, K0.trans (K3.trans q2), ?_, fun k s => ?_⟩
      · simp only [endTo, List.length_map]; omega
      · rw [endTo_keys, Y3]
    by_cases h0 : E r.k r.s = []
    · have hed : endD (E r.k r.s) r.e = .nils := by rw [h0]; rfl
      have hrb' := hrb
      rw [hed] at hrb
      simp (disch := first | omega | (simp only [List.length_append, List.length_cons, List.length_nil]; omega)) only [c22r0, c22r1, c22r2, c22r3, c22r4, c22r5, c22r6, c22r7, c22r8, c22l9, c22r10, hdm', hrb, splice0, go_sem, ↓reduceIte, reduceCtorEq, Nat.reduceAdd, Nat.reduceSub, Nat.reducePow, Nat.reduceMul, Nat.reduceEqDiff, Nat.reduceLT, Nat.reduceLeDiff, Int.reduceToNat, Int.reduceLT, Int.reduceLE, Int.reduceEq, Int.reduceNeg, Int.reduceAdd, Int.reduceSub, Int.reduceMul]
      refine FinOk.all (fin (H.length + 1) _ (.inl ⟨h0, by omega⟩) (by simp) (fun j b hb h1 h2 => ?_) ?_ ?_)
      · rw [List.getElem?_append_left (by rw [List.length_set]; exact lt_of_get hb), List.getElem?_set_ne (Ne.symm h1)]; exact hb
      · rw [List.getElem?_append_left (by rw [List.length_set]; exact hrl), List.getElem?_set_self hrl, h0]; rfl
      · rw [List.getElem?_append_right (by rw [List.length_set]; omega), List.length_set, show H.length + 1 - H.length = 1 by omega, h0]; rfl
    · have hed : endD (E r.k r.s) r.e = .own r.e (E r.k r.s).length := by unfold endD; rw [if_neg h0]
      have hen := t3.en r hr h0
      have hel := lt_of_get hen
      have hne : r.e ≠ r.b := fun h => by rw [h, hrb] at hen; cases hen
      rw [hed] at hrb
      have g1 : ∀ L : Heap, (H ++ L)[r.e]? = some (.grow 1 (i64s (E r.k r.s)) (E r.k r.s).length) := fun L => (Ext.app (Ext.refl H) L).get hen
      have g2 : ∀ (L : Heap) (X : Blk), (H ++ L).set r.e X = H.set r.e X ++ L := fun L X => List.set_append_left _ _ hel
      have g3 : ∀ (L : Heap) (X : Blk), (H.set r.e X ++ L)[r.b]? = some (.box [.own r.e (E r.k r.s).length, kidD ns3 r.k (r.s ++ [false]), kidD ns3 r.k (r.s ++ [true])]) := fun L X => by
        rw [List.getElem?_append_left (by rw [List.length_set]; exact hrl), List.getElem?_set_ne hne]; exact hrb
      have g4 : ∀ (L : Heap) (X Y : Blk), (H.set r.e X ++ L).set r.b Y = (H.set r.e X).set r.b Y ++ L := fun L X Y => List.set_append_left _ _ (by rw [List.length_set]; exact hrl)
      have hE9 : (E r.k r.s).length ≤ 1073741823 := by omega
      simp (disch := first | omega | (simp only [List.length_append, List.length_cons, List.length_nil]; omega)) only [c22r0, c22r1, c22r2, c22r3, c22r4, c22r5, c22r6, c22r7, c22r8, c22l9, c22r10, hdm', hrb, splice0, g1, g2, g3, g4, hE9, go_sem, ↓reduceIte, reduceCtorEq, Nat.reduceAdd, Nat.reduceSub, Nat.reducePow, Nat.reduceMul, Nat.reduceEqDiff, Nat.reduceLT, Nat.reduceLeDiff, Int.reduceToNat, Int.reduceLT, Int.reduceLE, Int.reduceEq, Int.reduceNeg, Int.reduceAdd, Int.reduceSub, Int.reduceMul]
      refine FinOk.all (fin r.e _ (.inr ⟨h0, rfl⟩) (by simp) (fun j b hb h1 h2 => ?_) ?_ ?_)
      · rw [List.getElem?_append_left (by rw [List.length_set, List.length_set]; exact lt_of_get hb), List.getElem?_set_ne (Ne.symm h1), List.getElem?_set_ne (Ne.symm h2)]; exact hb
      · rw [List.getElem?_append_left (by rw [List.length_set, List.length_set]; exact hrl), List.getElem?_set_self (by rw [List.length_set]; exact hrl)]
      · rw [List.getElem?_append_left (by rw [List.length_set, List.length_set]; exact hel), List.getElem?_set_ne (Ne.symm hne), List.getElem?_set_self hel, i64s_snoc]
end Go.Proofs

/-
  Own work. The walk of trie: New, Len, Nodes.
-/
namespace Go.Proofs
open Go Go.Ytecmopdncgekhaa
set_option linter.unusedVariables false
set_option linter.unusedSimpArgs false
set_option maxRecDepth 10000

/-! ### weighbridge/trie.New, params 1 -/
def c6r0 : List AStm := [.op (some 2) none (.mv (.c .nilp)),
    .op (some 3) none (.alloc [(.int .i64 0), (.int .i64 0)])]
def c6r1 : List AStm := [.op (some 8) none (.mv (.t 0)),
    .op (some 9) none (.len false (.t 8)),
    .op (some 10) none (.bin .gtr (.t 9) (.c (.int .i64 256)))]
def c6r2 : List AStm := [.op (some 11) none (.build [(.int .i64 0), (.int .i64 0)] [(0, 1, (.c (.int .i64 7))), (1, 1, (.c (.int .i64 256)))]),
    .op (some 2) none (.mv (.c .nilp)),
    .op none none (.store 2 (.t 3) (.t 11))]
def c6r3 : List AStm := [.op (some 12) none (.mv (.t 0)),
    .op (some 13) none (.len false (.t 12)),
    .op (some 14) none (.build [.nilp, .nilp, (.int .i64 0), (.int .i64 0)] [(2, 1, (.t 13))]),
    .op (some 15) none (.box (.t 14)),
    .op (some 4) none (.mv (.t 15))]
def c6r4 : List AStm := [.op (some 16) none (.mv (.t 0)),
    .op (some 17) none (.len false (.t 16)),
    .op (some 18) none (.mv (.c (.int .i64 0)))]
def c6r5 : List AStm := [.op (some 19) none (.bin .lss (.t 18) (.t 17))]
def c6r6 : List AStm := [.op (some 20) none (.mv (.t 18)),
    .op (some 21) none (.ixs 18 (.t 16) (.t 18)),
    .op (some 22) none (.load (some 18) (.t 21)),
    .op (some 6) none (.alloc [(.int .i64 0), (.int .u8 0), (.int .u8 0), (.int .u8 0), (.int .u8 0), (.int .u8 0), (.int .u8 0), (.int .u8 0), (.int .u8 0), (.int .u8 0), (.int .u8 0), (.int .u8 0), (.int .u8 0), (.int .u8 0), (.int .u8 0), (.int .u8 0), (.int .u8 0), (.int .i64 0)]),
    .op (some 5) none (.mv (.t 20)),
    .op none none (.store 18 (.t 6) (.t 22))]
def c6r7 : List AStm := [.op (some 23) none (.load (some 18) (.t 6)),
    .call (some 24) none (.c (.fn (.func 21) [] [])) [(.t 23)],
    .op (some 7) none (.mv (.t 24))]
def c6r8 : List AStm := [.op (some 25) none (.mv (.t 7)),
    .op (some 26) none (.bin .neq (.t 25) (.c (.int .i64 0)))]
def c6r9 : List AStm := [.op (some 27) none (.mv (.t 7)),
    .op (some 28) none (.mv (.t 5)),
    .op (some 29) none (.build [(.int .i64 0), (.int .i64 0)] [(0, 1, (.t 27)), (1, 1, (.t 28))]),
    .op (some 2) none (.mv (.c .nilp)),
    .op none none (.store 2 (.t 3) (.t 29))]
def c6r10 : List AStm := [.op (some 30) none (.mv (.t 4)),
    .op (some 31) none (.load (some 18) (.t 6)),
    .op (some 32) none (.mv (.t 5)),
    .call (some 33) none (.c (.fn (.func 22) [] [])) [(.t 30), (.t 31), (.t 32)]]
def c6r11 : List AStm := [.op (some 34) none (.bin .add (.t 18) (.c (.int .i64 1))),
    .op (some 18) none (.mv (.t 34))]
def c6l12 : AC := .seq (.reg c6r5) (.seq (.cond (.t 19) (.skip) (.exit 0)) (.seq (.block 1 (.seq (.reg c6r6) (.seq (.seq (.reg c6r7) (.seq (.reg c6r8) (.cond (.t 26) (.seq (.reg c6r9) (.ret)) (.skip)))) (.reg c6r10)))) (.reg c6r11)))
def c6r13 : List AStm := [.op (some 35) none (.mv (.t 4)),
    .op (some 36) none (.build [(.int .i64 0), (.int .i64 0)] []),
    .op (some 2) none (.mv (.t 35)),
    .op none none (.store 2 (.t 3) (.t 36))]
def c6 : CF := ⟨.seq (.reg c6r0) (.seq (.seq (.reg c6r1) (.cond (.t 10) (.seq (.reg c6r2) (.ret)) (.skip))) (.seq (.reg c6r3) (.seq (.seq (.reg c6r4) (.block 0 (.loop c6l12))) (.seq (.reg c6r13) (.ret))))), [.tmp 2, .cell 3 (some 2)], 37⟩
theorem cf6 : cfun Try.prog 6 = some c6 := by kernel_rfl

/-! ### (*weighbridge/trie.Trie).Len, params 1 -/
def c9r0 : List AStm := [.op (some 2) none (.mv (.c (.int .i64 0)))]
def c9r1 : List AStm := [.op (some 3) none (.mv (.t 0)),
    .op (some 4) none (.isnil false 1 (.t 3))]
def c9r2 : List AStm := [.op (some 2) none (.mv (.c (.int .i64 0)))]
def c9r3 : List AStm := [.op (some 5) none (.mv (.t 0)),
    .op (some 6) none (.nilchk (.t 5)),
    .op (some 7) none (.faddr 2 (.t 6)),
    .op (some 8) none (.load none (.t 7)),
    .op (some 2) none (.mv (.t 8))]
def c9 : CF := ⟨.seq (.reg c9r0) (.seq (.seq (.reg c9r1) (.cond (.t 4) (.seq (.reg c9r2) (.ret)) (.skip))) (.seq (.reg c9r3) (.ret))), [.tmp 2], 9⟩
theorem cf9 : cfun Try.prog 9 = some c9 := by kernel_rfl

/-! ### (*weighbridge/trie.Trie).Nodes, params 1 -/
def c15r0 : List AStm := [.op (some 2) none (.mv (.c (.int .i64 0)))]
def c15r1 : List AStm := [.op (some 3) none (.mv (.t 0)),
    .op (some 4) none (.isnil false 1 (.t 3))]
def c15r2 : List AStm := [.op (some 2) none (.mv (.c (.int .i64 0)))]
def c15r3 : List AStm := [.op (some 5) none (.mv (.t 0)),
    .op (some 6) none (.nilchk (.t 5)),
    .op (some 7) none (.faddr 3 (.t 6)),
    .op (some 8) none (.load none (.t 7)),
    .op (some 2) none (.mv (.t 8))]
def c15 : CF := ⟨.seq (.reg c15r0) (.seq (.seq (.reg c15r1) (.cond (.t 4) (.seq (.reg c15r2) (.ret)) (.skip))) (.seq (.reg c15r3) (.ret))), [.tmp 2], 9⟩
theorem cf15 : cfun Try.prog 15 = some c15 := by kernel_rfl



theorem ext_keep {h H : Heap} (hl : h.length ≤ H.length) (k : ∀ (i : Nat) (b : Blk), h[i]? = some b → H[i]? = some b) : Ext h H := by
  refine ⟨H.drop h.length, ?_⟩
  have : H.take h.length = h := by
    apply List.ext_getElem?
    intro i
    rw [List.getElem?_take]
    split
    · rename_i hi
      rw [List.getElem?_eq_getElem hi]
      exact k i _ (List.getElem?_eq_getElem hi)
    · rw [List.getElem?_eq_none (by omega)]
  rw [← this, List.length_take, Nat.min_eq_left hl, this]
  conv => lhs; rw [← List.take_append_drop h.length H, this]
theorem TrieAt.set {Hp : Heap} {T i : Nat} {ns : List Nd} {E : Nat → List Bool → List Nat} {many : Nat} {X : Blk} (t : TrieAt Hp T ns E many) (f : FreeN ns E T i) : TrieAt (Hp.set i X) T ns E many :=
  ⟨by rw [List.getElem?_set_ne f.1]; exact t.box, fun r hr => by rw [List.getElem?_set_ne (Ne.symm (f.2.1 r hr))]; exact t.nd r hr,
    fun r hr h => by rw [List.getElem?_set_ne (Ne.symm (f.2.2 r hr h))]; exact t.en r hr h, t.tb, t.keys, t.blks, t.eblk, t.nodup, t.non, t.shut⟩
/-- Which of the first prefixes end at a place. -/
def EAt (l : List Pf) (k : Nat) : Nat → List Bool → List Nat := fun r s =>
  (List.range k).filter fun i => decide (rootN (pfAt l i).v = r ∧ pathA (pfAt l i).a (pfAt l i).n.toNat = s)
theorem EAt_zero (l : List Pf) : EAt l 0 = fun _ _ => [] := rfl
theorem EAt_succ (l : List Pf) (k : Nat) : EAt l (k + 1) = addE' (EAt l k) (rootN (pfAt l k).v) (pathA (pfAt l k).a (pfAt l k).n.toNat) k := by
  funext r s
  unfold EAt addE'
  rw [List.range_succ, List.filter_append, List.filter_cons, List.filter_nil]
  by_cases h : r = rootN (pfAt l k).v ∧ s = pathA (pfAt l k).a (pfAt l k).n.toNat
  · rw [if_pos h, if_pos (by simp [h.1, h.2])]
  · rw [if_neg h, if_neg (by simp only [decide_eq_true_eq]; exact fun g => h ⟨g.1.symm, g.2.symm⟩), List.append_nil]
theorem EAt_le (l : List Pf) (k r : Nat) (s : List Bool) : (EAt l k r s).length ≤ k := by
  have := List.length_filter_le (fun i => decide (rootN (pfAt l i).v = r ∧ pathA (pfAt l i).a (pfAt l i).n.toNat = s)) (List.range k)
  simpa [EAt] using this
theorem EAt_lt {l : List Pf} {k r : Nat} {s : List Bool} {x : Nat} (h : x ∈ EAt l k r s) : x < k := by
  simp only [EAt, List.mem_filter, List.mem_range] at h
  exact h.1
def NodesAt (l : List Pf) (k : Nat) (ns : List Nd) : Prop := ∀ r s, (∃ q ∈ ns, q.is r s) ↔ ∃ i < k, r = rootN (pfAt l i).v ∧ ∃ d ≤ (pfAt l i).n.toNat, s = pathA (pfAt l i).a d
theorem NodesAt.succ {l : List Pf} {k : Nat} {ns ns' : List Nd} (h : NodesAt l k ns) (h' : ∀ r s, (∃ q ∈ ns', q.is r s) ↔ (∃ q ∈ ns, q.is r s) ∨ (r = rootN (pfAt l k).v ∧ ∃ d ≤ (pfAt l k).n.toNat, s = pathA (pfAt l k).a d)) : NodesAt l (k + 1) ns' := by
  intro r s
  rw [h', h]
  constructor
  · rintro (⟨i, g1, g2⟩ | g)
    · exact ⟨i, by omega, g2⟩
    · exact ⟨k, by omega, g⟩
  · rintro ⟨i, g1, g2⟩
    by_cases hi : i = k
    · subst hi; exact .inr g2
    · exact .inl ⟨i, by omega, g2⟩
theorem chk_n {p : Pf} (h : p.chk = 0) : 0 ≤ p.n ∧ p.n ≤ 128 := by
  refine checkF_le (v := p.v) ?_
  unfold Pf.chk checkF at h
  split at h
  · rename_i h2; exact absurd h h2
  · rename_i h2
    simpa using h2

theorem New_fc (h : Heap) (lD : D) (l : List Pf) (s : SlOf h 18 lD (pfs l) l.length) (ha : Addrs l) (hlen : l.length ≤ 1048576) :
    FC Try.prog 6 [lD] h fun d h' => Ext h h' ∧ ((chkPs l ≠ (0, 0) ∧ d = .tup [.nilp, .agg [.int .i64 (chkPs l).1, .int .i64 (chkPs l).2]]) ∨
      (chkPs l = (0, 0) ∧ l.length ≤ 256 ∧ (∀ i < l.length, (pfAt l i).chk = 0) ∧ ∃ T ns, d = .tup [.ref T 0, .agg [.int .i64 0, .int .i64 0]] ∧ TrieAt h' T ns (EAt l l.length) l.length ∧ NodesAt l l.length ns)) := by
  refine FC.goes cf6 ?_; simp only [c6]; simp only [List.length_cons, List.length_nil, Nat.reduceAdd, Nat.reduceSub, List.replicate_succ, List.replicate_zero, List.cons_append, List.nil_append]
  have s' := s.low [.box [.int .i64 0, .int .i64 0]]
  by_cases h2 : (256 : Int) < l.length
  · have he : chkPs l = (7, 256) := by
      unfold chkPs
      rw [if_pos (by omega)]
    rw [he]
    simp (disch := first | omega | (simp only [List.length_append, List.length_cons, List.length_nil]; omega)) only [c6r0, c6r1, c6r2, c6r3, c6r4, c6r5, c6r6, c6r7, c6r8, c6r9, c6r10, c6r11, c6l12, c6r13, h2, s'.lend, s'.sort, fillD, splice0, go_sem, ↓reduceIte, reduceCtorEq, Nat.reduceAdd, Nat.reduceSub, Nat.reducePow, Nat.reduceMul, Nat.reduceEqDiff, Nat.reduceLT, Nat.reduceLeDiff, Int.reduceToNat, Int.reduceLT, Int.reduceLE, Int.reduceEq, Int.reduceNeg, Int.reduceAdd, Int.reduceSub, Int.reduceMul]
    exact FinOk.all ⟨⟨_, rfl⟩, .inl ⟨by simp, rfl⟩⟩
  · have h2' : ¬ 256 < l.length := by omega
    have s0 : SlOf (h ++ [.box [.int .i64 0, .int .i64 0], .box [.nilp, .nilp, .int .i64 (l.length : Int), .int .i64 0]]) 18 lD (pfs l) l.length := s.low _
    simp (disch := first | omega | (simp only [List.length_append, List.length_cons, List.length_nil]; omega)) only [c6r0, c6r1, c6r2, c6r3, c6r4, c6r5, c6r6, c6r7, c6r8, c6r9, c6r10, c6r11, c6l12, c6r13, h2, s'.lend, s'.sort, s0.lend, s0.sort, splice0, fillD, go_sem, ↓reduceIte, reduceCtorEq, Nat.reduceAdd, Nat.reduceSub, Nat.reducePow, Nat.reduceMul, Nat.reduceEqDiff, Nat.reduceLT, Nat.reduceLeDiff, Int.reduceToNat, Int.reduceLT, Int.reduceLE, Int.reduceEq, Int.reduceNeg, Int.reduceAdd, Int.reduceSub, Int.reduceMul]
    have bF : (h ++ [.box [.int .i64 0, .int .i64 0], .box [.nilp, .nilp, .int .i64 (l.length : Int), .int .i64 0]])[h.length]? = some (.box [.int .i64 0, .int .i64 0]) := by
      rw [List.getElem?_append_right (Nat.le_refl _), Nat.sub_self]; rfl
    have bT : (h ++ [.box [.int .i64 0, .int .i64 0], .box [.nilp, .nilp, .int .i64 (l.length : Int), .int .i64 0]])[h.length + 1]? = some (.box [.nilp, .nilp, .int .i64 (l.length : Int), .int .i64 0]) := by
      rw [List.getElem?_append_right (by omega), show h.length + 1 - h.length = 1 by omega]; rfl
    have E0 : Ext h (h ++ [.box [.int .i64 0, .int .i64 0], .box [.nilp, .nilp, .int .i64 (l.length : Int), .int .i64 0]]) := ⟨_, rfl⟩
    have hl0 : (h ++ [Blk.box [.int .i64 0, .int .i64 0], .box [.nilp, .nilp, .int .i64 (l.length : Int), .int .i64 0]]).length = h.length + 2 := by simp
    generalize (h ++ [.box [.int .i64 0, .int .i64 0], .box [.nilp, .nilp, .int .i64 (l.length : Int), .int .i64 0]]) = h0 at *
    have t0 : TrieAt h0 (h.length + 1) [] (EAt l 0) l.length := ⟨bT, by simp, by simp, by simp, by simp, by simp, by simp, by simp, fun _ _ _ => rfl, by simp⟩
    refine loop_to l.length (fun k st => (∀ j < k, (pfAt l j).chk = 0) ∧ ∃ (H : Heap) (ns : List Nd), TrieAt H (h.length + 1) ns (EAt l k) l.length ∧ Keep2 (h.length + 1) [] (EAt l 0) h0 ns (EAt l k) H ∧ ns.length ≤ k * 129 ∧ NodesAt l k ns ∧
      ∃ (j : Nat → D), st = ⟨(lD :: j 1 :: j 2 :: .ref h.length 0 :: .ref (h.length + 1) 0 :: j 5 :: j 6 :: j 7 :: j 8 :: j 9 :: j 10 :: j 11 :: j 12 :: j 13 :: j 14 :: j 15 :: lD :: .int .i64 (l.length : Int) :: .int .i64 (k : Int) :: j 19 :: j 20 :: j 21 :: j 22 :: j 23 :: j 24 :: j 25 :: j 26 :: j 27 :: j 28 :: j 29 :: j 30 :: j 31 :: j 32 :: j 33 :: j 34 :: j 35 :: j 36 :: []), H⟩) ⟨fun j hj => absurd hj (by omega), h0, [], t0, Keep2.refl, by simp, fun r s => by simp, junk rfl⟩ ?_
    rintro k st hk ⟨hp, H, ns, t, K, L, Y, j, rfl⟩
    have fF : FreeN [] (EAt l 0) (h.length + 1) h.length := ⟨by omega, by simp, by simp⟩
    obtain ⟨bF2, fF2⟩ := K.2 _ _ bF fF
    have hFl := lt_of_get bF2
    have E1 : Ext h H := ext_keep (by have := K.1; omega) fun i b hb => (K.2 i b (E0.get hb) ⟨by have := lt_of_get hb; omega, by simp, by simp⟩).1
    have s3 := SlOf.ext s E1
    have gX : ∀ X : Blk, (H.set h.length X)[h.length]? = some X := fun X => List.getElem?_set_self hFl
    have gXL : ∀ (X : Blk) (L : Heap), (H.set h.length X ++ L)[h.length]? = some X := fun X L => (Ext.app (Ext.refl _) L).get (gX X)
    have E3 : ∀ X : Blk, Ext h (H.set h.length X) := fun X => ext_keep (by rw [List.length_set]; omega) fun i b hb => by
      rw [List.getElem?_set_ne (by have := lt_of_get hb; omega)]
      exact E1.get hb
    by_cases hkn : k < l.length
    · have hkn' : (k : Int) < l.length := by omega
      obtain ⟨p, cs, e1, e2, e3, e4⟩ := pf_elem s3 ha hkn
      have e5 : IntKind.i64.wrap ((k : Int) + 1) = ((k + 1 : Nat) : Int) := by rw [w_i64 (by omega) (by omega)]; omega
      have hc18 := Pf.cells_length (ha.at k)
      have hone : (pfAt l k).cells.all D.one = true := by
        rw [Pf.cells, List.all_cons, pr_one]; rfl
      have htk : (pfAt l k).cells.take 18 = (pfAt l k).cells := List.take_of_length_le (by omega)
      simp (disch := first | omega | (simp only [List.length_append, List.length_cons, List.length_nil]; omega)) only [c6r0, c6r1, c6r2, c6r3, c6r4, c6r5, c6r6, c6r7, c6r8, c6r9, c6r10, c6r11, c6l12, c6r13, hkn', s3.lend, s3.sort, e1, e2, e3, e4, hone, htk, hc18, go_sem, ↓reduceIte, reduceCtorEq, Nat.reduceAdd, Nat.reduceSub, Nat.reducePow, Nat.reduceMul, Nat.reduceEqDiff, Nat.reduceLT, Nat.reduceLeDiff, Int.reduceToNat, Int.reduceLT, Int.reduceLE, Int.reduceEq, Int.reduceNeg, Int.reduceAdd, Int.reduceSub, Int.reduceMul]
      refine gfc_of (pcheck_fc _ (pfAt l k).v (pfAt l k).n (pfAt l k).a (ha.at k)) ?_
      rintro d h' ⟨rfl, e⟩
      rw [e]
      change gs _ _ _ _ ⟨setD _ _ (.int .i64 (pfAt l k).chk), _⟩
      have E2 : Ext H (H ++ [.box (pfAt l k).cells]) := ⟨_, rfl⟩
      have bP := last_get H (.box (pfAt l k).cells)
      by_cases hb : (pfAt l k).chk = 0
      · have hn := chk_n hb
        have hm : (pfAt l k).n = (((pfAt l k).n.toNat : Nat) : Int) := by omega
        have tt := t.ext E2
        have hEl : (EAt l k (rootN (pfAt l k).v) (pathA (pfAt l k).a (pfAt l k).n.toNat)).length ≤ 1000000 := by
          have := EAt_le l k (rootN (pfAt l k).v) (pathA (pfAt l k).a (pfAt l k).n.toNat); omega
        simp (disch := first | omega | (simp only [List.length_append, List.length_cons, List.length_nil]; omega)) only [hb, bP, htk, hc18, go_sem, ↓reduceIte, reduceCtorEq, Nat.reduceAdd, Nat.reduceSub, Nat.reducePow, Nat.reduceMul, Nat.reduceEqDiff, Nat.reduceLT, Nat.reduceLeDiff, Int.reduceToNat, Int.reduceLT, Int.reduceLE, Int.reduceEq, Int.reduceNeg, Int.reduceAdd, Int.reduceSub, Int.reduceMul]
        refine gfc_of (put_fc _ _ _ _ _ tt (pfAt l k) (ha.at k) (pfAt l k).n.toNat hm (by omega) (by omega) k (by omega) hEl) ?_
        rintro d h9 ⟨ns', t9, K9, L9, Y9⟩
        rw [← EAt_succ] at t9 K9
        simp (disch := first | omega | (simp only [List.length_append, List.length_cons, List.length_nil]; omega)) only [e5, go_sem, ↓reduceIte, reduceCtorEq, Nat.reduceAdd, Nat.reduceSub, Nat.reducePow, Nat.reduceMul, Nat.reduceEqDiff, Nat.reduceLT, Nat.reduceLeDiff, Int.reduceToNat, Int.reduceLT, Int.reduceLE, Int.reduceEq, Int.reduceNeg, Int.reduceAdd, Int.reduceSub, Int.reduceMul]
        refine ⟨hkn, fun j hj => ?_, h9, ns', t9, (K.trans (Keep2.ext E2)).trans K9, by omega, Y.succ Y9, junk rfl⟩
        by_cases hjk : j = k
        · subst hjk; exact hb
        · exact hp j (by omega)
      · have he := chkPs_bad h2' hkn hb hp
        rw [he]
        have bF3 := E2.get bF2
        simp (disch := first | omega | (simp only [List.length_append, List.length_cons, List.length_nil]; omega)) only [hb, fillD, splice0, bF3, gXL, go_sem, ↓reduceIte, reduceCtorEq, Nat.reduceAdd, Nat.reduceSub, Nat.reducePow, Nat.reduceMul, Nat.reduceEqDiff, Nat.reduceLT, Nat.reduceLeDiff, Int.reduceToNat, Int.reduceLT, Int.reduceLE, Int.reduceEq, Int.reduceNeg, Int.reduceAdd, Int.reduceSub, Int.reduceMul]
        refine FinOk.all ⟨Ext.app (E3 _) _, .inl ⟨fun h => hb (congrArg Prod.fst h), rfl⟩⟩
    · have hkn' : ¬ (k : Int) < l.length := by omega
      have : k = l.length := by omega
      subst this
      have he := chkPs_good h2' hp
      rw [he]
      simp (disch := first | omega | (simp only [List.length_append, List.length_cons, List.length_nil]; omega)) only [c6r0, c6r1, c6r2, c6r3, c6r4, c6r5, c6r6, c6r7, c6r8, c6r9, c6r10, c6r11, c6l12, c6r13, hkn', fillD, splice0, bF2, gX, go_sem, ↓reduceIte, reduceCtorEq, Nat.reduceAdd, Nat.reduceSub, Nat.reducePow, Nat.reduceMul, Nat.reduceEqDiff, Nat.reduceLT, Nat.reduceLeDiff, Int.reduceToNat, Int.reduceLT, Int.reduceLE, Int.reduceEq, Int.reduceNeg, Int.reduceAdd, Int.reduceSub, Int.reduceMul]
      exact FinOk.all ⟨E3 _, .inr ⟨by omega, hp, _, ns, rfl, t.set fF2, Y⟩⟩

theorem Len_fc (h : Heap) (T many : Nat) (ns : List Nd) (E : Nat → List Bool → List Nat) (t : TrieAt h T ns E many) :
    FC Try.prog 9 [.ref T 0] h fun d h' => d = .int .i64 (many : Int) ∧ h' = h := by
  have hT := t.box
  refine FC.goes cf9 ?_; simp only [c9]; simp only [List.length_cons, List.length_nil, Nat.reduceAdd, Nat.reduceSub, List.replicate_succ, List.replicate_zero, List.cons_append, List.nil_append]
  simp (disch := first | omega | (simp only [List.length_append, List.length_cons, List.length_nil]; omega)) only [c9r0, c9r1, c9r2, c9r3, hT, go_sem, ↓reduceIte, reduceCtorEq, Nat.reduceAdd, Nat.reduceSub, Nat.reducePow, Nat.reduceMul, Nat.reduceEqDiff, Nat.reduceLT, Nat.reduceLeDiff, Int.reduceToNat, Int.reduceLT, Int.reduceLE, Int.reduceEq, Int.reduceNeg, Int.reduceAdd, Int.reduceSub, Int.reduceMul]
  exact FinOk.all ⟨rfl, rfl⟩
theorem Nodes_fc (h : Heap) (T many : Nat) (ns : List Nd) (E : Nat → List Bool → List Nat) (t : TrieAt h T ns E many) :
    FC Try.prog 15 [.ref T 0] h fun d h' => d = .int .i64 (ns.length : Int) ∧ h' = h := by
  have hT := t.box
  refine FC.goes cf15 ?_; simp only [c15]; simp only [List.length_cons, List.length_nil, Nat.reduceAdd, Nat.reduceSub, List.replicate_succ, List.replicate_zero, List.cons_append, List.nil_append]
  simp (disch := first | omega | (simp only [List.length_append, List.length_cons, List.length_nil]; omega)) only [c15r0, c15r1, c15r2, c15r3, hT, go_sem, ↓reduceIte, reduceCtorEq, Nat.reduceAdd, Nat.reduceSub, Nat.reducePow, Nat.reduceMul, Nat.reduceEqDiff, Nat.reduceLT, Nat.reduceLeDiff, Int.reduceToNat, Int.reduceLT, Int.reduceLE, Int.reduceEq, Int.reduceNeg, Int.reduceAdd, Int.reduceSub, Int.reduceMul]
  exact FinOk.all ⟨rfl, rfl⟩
theorem LenNil_fc (h : Heap) : FC Try.prog 9 [.nilp] h fun d h' => d = .int .i64 0 ∧ h' = h := by
  refine FC.goes cf9 ?_; simp only [c9]; simp only [List.length_cons, List.length_nil, Nat.reduceAdd, Nat.reduceSub, List.replicate_succ, List.replicate_zero, List.cons_append, List.nil_append]
  simp (disch := first | omega | (simp only [List.length_append, List.length_cons, List.length_nil]; omega)) only [c9r0, c9r1, c9r2, c9r3, go_sem, ↓reduceIte, reduceCtorEq, Nat.reduceAdd, Nat.reduceSub, Nat.reducePow, Nat.reduceMul, Nat.reduceEqDiff, Nat.reduceLT, Nat.reduceLeDiff, Int.reduceToNat, Int.reduceLT, Int.reduceLE, Int.reduceEq, Int.reduceNeg, Int.reduceAdd, Int.reduceSub, Int.reduceMul]
  exact FinOk.all ⟨rfl, rfl⟩
theorem NodesNil_fc (h : Heap) : FC Try.prog 15 [.nilp] h fun d h' => d = .int .i64 0 ∧ h' = h := by
  refine FC.goes cf15 ?_; simp only [c15]; simp only [List.length_cons, List.length_nil, Nat.reduceAdd, Nat.reduceSub, List.replicate_succ, List.replicate_zero, List.cons_append, List.nil_append]
  simp (disch := first | omega | (simp only [List.length_append, List.length_cons, List.length_nil]; omega)) only [c15r0, c15r1, c15r2, c15r3, go_sem, ↓reduceIte, reduceCtorEq, Nat.reduceAdd, Nat.reduceSub, Nat.reducePow, Nat.reduceMul, Nat.reduceEqDiff, Nat.reduceLT, Nat.reduceLeDiff, Int.reduceToNat, Int.reduceLT, Int.reduceLE, Int.reduceEq, Int.reduceNeg, Int.reduceAdd, Int.reduceSub, Int.reduceMul]
  exact FinOk.all ⟨rfl, rfl⟩
end Go.Proofs

/-
  Own work. The way of an address through a trie, as a loop over a function.
-/
namespace Go.Proofs
open Go Go.Ytecmopdncgekhaa
set_option linter.unusedVariables false
set_option linter.unusedSimpArgs false
set_option maxRecDepth 10000

/-! ### (*weighbridge/trie.Trie).way, params 3 -/
def c25r0 : List AStm := [.op (some 3) none (.box (.t 0)),
    .op (some 4) none (.box (.t 1)),
    .op (some 5) none (.box (.t 2)),
    .op (some 6) none (.mv (.c .nilf))]
def c25r1 : List AStm := [.op (some 7) none (.mkfn (.func 40) [] [(.t 4), (.t 3), (.t 5)]),
    .op (some 6) none (.mv (.t 7))]
def c25 : CF := ⟨.seq (.reg c25r0) (.seq (.reg c25r1) (.ret)), [.tmp 6], 8⟩
theorem cf25 : cfun Try.prog 25 = some c25 := by kernel_rfl

/-! ### (*weighbridge/trie.Trie).way$1, params 1 -/
def c40r0 : List AStm := [.op (some 10) none (.load none (.t 1)),
    .call (some 11) none (.c (.fn (.func 35) [] [])) [(.t 10)],
    .op (some 9) none (.mv (.t 11)),
    .op (some 12) none (.ext (.t 9) 0),
    .op (some 13) none (.ext (.t 9) 1),
    .op (some 5) none (.mv (.t 12)),
    .op (some 6) none (.mv (.t 13))]
def c40r1 : List AStm := [.op (some 14) none (.load none (.t 2)),
    .op (some 15) none (.isnil false 1 (.t 14)),
    .op (some 16) none (.mv (.t 15)),
    .op (some 17) (some (16, false)) (.mv (.t 6)),
    .op (some 18) (some (16, false)) (.un .not (.t 17)),
    .op (some 19) none (.pick (.t 16) (.c (.bool true)) (.t 18))]
def c40r2 : List AStm := [.op (some 20) none (.load none (.t 2)),
    .op (some 21) none (.mv (.t 5)),
    .op (some 22) none (.nilchk (.t 20)),
    .op (some 23) none (.faddr 0 (.t 22)),
    .op (some 24) none (.ixa 2 1 (.t 23) (.t 21)),
    .op (some 25) none (.load none (.t 24)),
    .op (some 7) none (.mv (.t 25))]
def c40r3 : List AStm := [.op (some 8) none (.mv (.c (.int .i64 0)))]
def c40r4 : List AStm := [.op (some 26) none (.mv (.t 7)),
    .op (some 27) none (.isnil true 1 (.t 26)),
    .op (some 28) none (.mv (.t 27)),
    .op (some 29) (some (28, true)) (.mv (.t 0)),
    .op (some 30) (some (28, true)) (.mv (.t 7)),
    .call (some 31) (some (28, true)) (.t 29) [(.t 30)],
    .op (some 32) none (.pick (.t 28) (.t 31) (.c (.bool false))),
    .op (some 33) none (.mv (.t 32)),
    .op (some 34) (some (33, true)) (.mv (.t 8)),
    .op (some 35) (some (33, true)) (.bin .lss (.t 34) (.c (.int .i64 128))),
    .op (some 36) none (.pick (.t 33) (.t 35) (.c (.bool false)))]
def c40r5 : List AStm := []
def c40r6 : List AStm := [.op (some 39) none (.mv (.t 7)),
    .op (some 40) none (.load (some 16) (.t 3)),
    .op (some 41) none (.mv (.t 8)),
    .op (some 43) none (.nilchk (.t 39)),
    .op (some 44) none (.faddr 1 (.t 43)),
    .callG (some 42) none (.c (.fn (.func 37) [] [])) [(.t 40), (.t 41)],
    .op (some 45) none (.ixa 2 1 (.t 44) (.t 42)),
    .op (some 46) none (.load none (.t 45)),
    .op (some 7) none (.mv (.t 46))]
def c40r7 : List AStm := [.op (some 37) none (.mv (.t 8)),
    .op (some 38) none (.bin .add (.t 37) (.c (.int .i64 1))),
    .op (some 8) none (.mv (.t 38))]
def c40l8 : AC := .seq (.seq (.reg c40r4) (.cond (.t 36) (.skip) (.exit 0))) (.seq (.block 1 (.dreg c40r5 c40r6)) (.reg c40r7))
def c40 : CF := ⟨.seq (.reg c40r0) (.seq (.seq (.reg c40r1) (.cond (.t 19) (.ret) (.skip))) (.seq (.reg c40r2) (.seq (.reg c40r3) (.block 0 (.loop c40l8))))), [], 47⟩
theorem cf40 : cfun Try.prog 40 = some c40 := by kernel_rfl



theorem way_fc (h : Heap) (tD : D) (hs : laid tD = true) (hv : vcells tD = [tD]) (v : Int) (a : List UInt8) (ha : a.length = 16) :
    FC Try.prog 25 [tD, .int .i64 v, .agg (ofBytes a)] h fun d h' =>
      d = .fn (.func 40) [] [.ref (h.length + 1) 0, .ref h.length 0, .ref (h.length + 2) 0] ∧ h' = h ++ [.box [tD], .box [.int .i64 v], .box (ofBytes a)] := by
  refine FC.goes cf25 ?_; simp only [c25]; simp only [List.length_cons, List.length_nil, Nat.reduceAdd, Nat.reduceSub, List.replicate_succ, List.replicate_zero, List.cons_append, List.nil_append]
  simp (disch := first | omega | (simp only [List.length_append, List.length_cons, List.length_nil]; omega)) only [c25r0, c25r1, hs, hv, go_sem, ↓reduceIte, reduceCtorEq, Nat.reduceAdd, Nat.reduceSub, Nat.reducePow, Nat.reduceMul, Nat.reduceEqDiff, Nat.reduceLT, Nat.reduceLeDiff, Int.reduceToNat, Int.reduceLT, Int.reduceLE, Int.reduceEq, Int.reduceNeg, Int.reduceAdd, Int.reduceSub, Int.reduceMul]
  exact FinOk.all ⟨rfl, rfl⟩

/-- How many nodes the way goes over. -/
def WayEnd (ns : List Nd) (v : Int) (a : List UInt8) (d : Nat) : Prop := (rootB v = false ∧ d = 0) ∨ (rootB v = true ∧ (d = 129 ∨ (d ≤ 128 ∧ ∀ q ∈ ns, ¬ q.is (rootN v) (pathA a d))))
/-- THE WAY: whatever the yield does. -/
theorem way1_fc {I : Nat → Heap → Prop} (T many : Nat) (ns : List Nd) (E : Nat → List Bool → List Nat) (v : Int) (a : List UInt8) (ha : a.length = 16) (bv bt ba r : Nat) (h : Heap) (h0 : I 0 h)
    (hx : ∀ d h', I d h' → TrieAt h' T ns E many ∧ h'[bv]? = some (.box [.int .i64 v]) ∧ h'[bt]? = some (.box [.ref T 0]) ∧ h'[ba]? = some (.box (ofBytes a)))
    (hy : ∀ d (q : Nd) h', d ≤ 128 → rootB v = true → q ∈ ns → q.is (rootN v) (pathA a d) → I d h' → YC Try.prog r [.ref q.b 0] h' fun x h'' => x = .bool true ∧ I (d + 1) h'') :
    FC Try.prog 40 [.yv r, .ref bv 0, .ref bt 0, .ref ba 0] h fun _ h' =>
      ∃ d, I d h' ∧ WayEnd ns v a d := by
  have hal2 : (ofBytes a).length = 16 := by rw [ofBytes_length, ha]
  have hat : (ofBytes a).take 16 = ofBytes a := List.take_of_length_le (by omega)
  obtain ⟨t0, b0, b1, b2⟩ := hx _ _ h0
  refine FC.goes cf40 ?_; simp only [c40]; simp only [List.length_cons, List.length_nil, Nat.reduceAdd, Nat.reduceSub, List.replicate_succ, List.replicate_zero, List.cons_append, List.nil_append]
  simp (disch := first | omega | (simp only [List.length_append, List.length_cons, List.length_nil]; omega)) only [c40r0, c40r1, c40r2, c40r3, c40r4, c40r5, c40r6, c40r7, c40l8, b0, go_sem, ↓reduceIte, reduceCtorEq, Nat.reduceAdd, Nat.reduceSub, Nat.reducePow, Nat.reduceMul, Nat.reduceEqDiff, Nat.reduceLT, Nat.reduceLeDiff, Int.reduceToNat, Int.reduceLT, Int.reduceLE, Int.reduceEq, Int.reduceNeg, Int.reduceAdd, Int.reduceSub, Int.reduceMul]
  refine gfc_of (root_fc _ v) ?_
  rintro d h' ⟨rfl, e⟩
  rw [e]
  have hk2 := root_lt v
  have hk2' : (rootN v : Int) < 2 := by omega
  cases hb : rootB v with
  | false =>
    have hT := t0.box
    simp (disch := first | omega | (simp only [List.length_append, List.length_cons, List.length_nil]; omega)) only [b1, hT, go_sem, ↓reduceIte, reduceCtorEq, Nat.reduceAdd, Nat.reduceSub, Nat.reducePow, Nat.reduceMul, Nat.reduceEqDiff, Nat.reduceLT, Nat.reduceLeDiff, Int.reduceToNat, Int.reduceLT, Int.reduceLE, Int.reduceEq, Int.reduceNeg, Int.reduceAdd, Int.reduceSub, Int.reduceMul]
    exact FinOk.all ⟨0, h0, .inl ⟨hb, rfl⟩⟩
  | true =>
    have hT := t0.box
    have hkid : [kidD ns 0 [], kidD ns 1 [], .int .i64 (many : Int), .int .i64 (ns.length : Int)][rootN v]? = some (kidD ns (rootN v) []) := by
      rcases (by omega : rootN v = 0 ∨ rootN v = 1) with e | e <;> rw [e] <;> rfl
    have hkid' : (List.drop (rootN v) [kidD ns 0 [], kidD ns 1 [], .int .i64 (many : Int), .int .i64 (ns.length : Int)])[0]? = some (kidD ns (rootN v) []) := by
      rw [List.getElem?_drop, Nat.add_zero]; exact hkid
    simp (disch := first | omega | (simp only [List.length_append, List.length_cons, List.length_nil]; omega)) only [b1, hk2, hk2', hT, hkid, hkid', go_sem, ↓reduceIte, reduceCtorEq, Nat.reduceAdd, Nat.reduceSub, Nat.reducePow, Nat.reduceMul, Nat.reduceEqDiff, Nat.reduceLT, Nat.reduceLeDiff, Int.reduceToNat, Int.reduceLT, Int.reduceLE, Int.reduceEq, Int.reduceNeg, Int.reduceAdd, Int.reduceSub, Int.reduceMul]
    refine loop_to 128 (fun k st => ∃ (H : Heap), I k H ∧ ∃ (j : Nat → D), st = ⟨(.yv r :: .ref bv 0 :: .ref bt 0 :: .ref ba 0 :: j 4 :: j 5 :: j 6 :: kidD ns (rootN v) (pathA a k) :: .int .i64 (k : Int) :: j 9 :: j 10 :: j 11 :: j 12 :: j 13 :: j 14 :: j 15 :: j 16 :: j 17 :: j 18 :: j 19 :: j 20 :: j 21 :: j 22 :: j 23 :: j 24 :: j 25 :: j 26 :: j 27 :: j 28 :: j 29 :: j 30 :: j 31 :: j 32 :: j 33 :: j 34 :: j 35 :: j 36 :: j 37 :: j 38 :: j 39 :: j 40 :: j 41 :: j 42 :: j 43 :: j 44 :: j 45 :: j 46 :: []), H⟩) ⟨h, h0, junk rfl⟩ ?_
    rintro k st hk ⟨H, hi, j, rfl⟩
    rcases kid_cases ns (rootN v) (pathA a k) with ⟨hnil, hno⟩ | ⟨q, hq, hqi, hkd⟩
    · rw [hnil]
      simp (disch := first | omega | (simp only [List.length_append, List.length_cons, List.length_nil]; omega)) only [c40r0, c40r1, c40r2, c40r3, c40r4, c40r5, c40r6, c40r7, c40l8, go_sem, ↓reduceIte, reduceCtorEq, Nat.reduceAdd, Nat.reduceSub, Nat.reducePow, Nat.reduceMul, Nat.reduceEqDiff, Nat.reduceLT, Nat.reduceLeDiff, Int.reduceToNat, Int.reduceLT, Int.reduceLE, Int.reduceEq, Int.reduceNeg, Int.reduceAdd, Int.reduceSub, Int.reduceMul]
      exact FinOk.all ⟨k, hi, .inr ⟨hb, .inr ⟨hk, hno⟩⟩⟩
    · rw [hkd]
      have hqb0 := (hx _ _ hi).1.nd q hq
      simp (disch := first | omega | (simp only [List.length_append, List.length_cons, List.length_nil]; omega)) only [c40r0, c40r1, c40r2, c40r3, c40r4, c40r5, c40r6, c40r7, c40l8, hqb0, gcall_yv, go_sem, ↓reduceIte, reduceCtorEq, Nat.reduceAdd, Nat.reduceSub, Nat.reducePow, Nat.reduceMul, Nat.reduceEqDiff, Nat.reduceLT, Nat.reduceLeDiff, Int.reduceToNat, Int.reduceLT, Int.reduceLE, Int.reduceEq, Int.reduceNeg, Int.reduceAdd, Int.reduceSub, Int.reduceMul]
      refine gyc_of (hy k q H hk hb hq hqi hi) ?_
      rintro d H2 ⟨rfl, hi2⟩
      obtain ⟨t2, c0, c1, c2⟩ := hx _ _ hi2
      have hqb := t2.nd q hq
      by_cases hk8 : k < 128
      · have hk8' : (k : Int) < 128 := by omega
        have e5 : IntKind.i64.wrap ((k : Int) + 1) = ((k + 1 : Nat) : Int) := by rw [w_i64 (by omega) (by omega)]; omega
        have l16 : 16 ≤ (ofBytes a).length := by omega
        simp (disch := first | omega | (simp only [List.length_append, List.length_cons, List.length_nil]; omega)) only [hk8', c2, hat, hqb, l16, go_sem, ↓reduceIte, reduceCtorEq, Nat.reduceAdd, Nat.reduceSub, Nat.reducePow, Nat.reduceMul, Nat.reduceEqDiff, Nat.reduceLT, Nat.reduceLeDiff, Int.reduceToNat, Int.reduceLT, Int.reduceLE, Int.reduceEq, Int.reduceNeg, Int.reduceAdd, Int.reduceSub, Int.reduceMul]
        refine xfc_of (tbit_fc _ a ha k hk8) ?_
        rintro d2 h' ⟨rfl, e⟩
        refine ⟨⟨[], by rw [e, List.append_nil]⟩, ?_⟩
        rw [e]
        have hb2 : (bitN a k : Int) < 2 := by have : bitN a k < 2 := Nat.mod_lt _ (by omega); omega
        have hkk : (List.drop (1 + bitN a k) [endD (E q.k q.s) q.e, kidD ns q.k (q.s ++ [false]), kidD ns q.k (q.s ++ [true])])[0]? = some (kidD ns (rootN v) (pathA a (k + 1))) := by
          rw [pathA_succ, bitN_eq, hqi.1, hqi.2]
          cases abit a k <;> rfl
        simp (disch := first | omega | (simp only [List.length_append, List.length_cons, List.length_nil]; omega)) only [hb2, hqb, hkk, e5, go_sem, ↓reduceIte, reduceCtorEq, Nat.reduceAdd, Nat.reduceSub, Nat.reducePow, Nat.reduceMul, Nat.reduceEqDiff, Nat.reduceLT, Nat.reduceLeDiff, Int.reduceToNat, Int.reduceLT, Int.reduceLE, Int.reduceEq, Int.reduceNeg, Int.reduceAdd, Int.reduceSub, Int.reduceMul]
        exact ⟨hk8, H2, hi2, junk rfl⟩
      · have hk8' : ¬ (k : Int) < 128 := by omega
        have : k = 128 := by omega
        subst this
        simp (disch := first | omega | (simp only [List.length_append, List.length_cons, List.length_nil]; omega)) only [hk8', go_sem, ↓reduceIte, reduceCtorEq, Nat.reduceAdd, Nat.reduceSub, Nat.reducePow, Nat.reduceMul, Nat.reduceEqDiff, Nat.reduceLT, Nat.reduceLeDiff, Int.reduceToNat, Int.reduceLT, Int.reduceLE, Int.reduceEq, Int.reduceNeg, Int.reduceAdd, Int.reduceSub, Int.reduceMul]
        exact FinOk.all ⟨129, hi2, .inr ⟨hb, .inl rfl⟩⟩
/-- The way through no trie. -/
theorem way1Nil_fc (v : Int) (bv bt ba r : Nat) (h : Heap) (b0 : h[bv]? = some (.box [.int .i64 v])) (b1 : h[bt]? = some (.box [.nilp])) :
    FC Try.prog 40 [.yv r, .ref bv 0, .ref bt 0, .ref ba 0] h fun _ h' => h' = h := by
  refine FC.goes cf40 ?_; simp only [c40]; simp only [List.length_cons, List.length_nil, Nat.reduceAdd, Nat.reduceSub, List.replicate_succ, List.replicate_zero, List.cons_append, List.nil_append]
  simp (disch := first | omega | (simp only [List.length_append, List.length_cons, List.length_nil]; omega)) only [c40r0, c40r1, c40r2, c40r3, c40r4, c40r5, c40r6, c40r7, c40l8, b0, go_sem, ↓reduceIte, reduceCtorEq, Nat.reduceAdd, Nat.reduceSub, Nat.reducePow, Nat.reduceMul, Nat.reduceEqDiff, Nat.reduceLT, Nat.reduceLeDiff, Int.reduceToNat, Int.reduceLT, Int.reduceLE, Int.reduceEq, Int.reduceNeg, Int.reduceAdd, Int.reduceSub, Int.reduceMul]
  refine gfc_of (root_fc _ v) ?_
  rintro d h' ⟨rfl, e⟩
  rw [e]
  simp (disch := first | omega | (simp only [List.length_append, List.length_cons, List.length_nil]; omega)) only [b1, go_sem, ↓reduceIte, reduceCtorEq, Nat.reduceAdd, Nat.reduceSub, Nat.reducePow, Nat.reduceMul, Nat.reduceEqDiff, Nat.reduceLT, Nat.reduceLeDiff, Int.reduceToNat, Int.reduceLT, Int.reduceLE, Int.reduceEq, Int.reduceNeg, Int.reduceAdd, Int.reduceSub, Int.reduceMul]
  exact FinOk.all rfl
end Go.Proofs

