/-
  Own work. The walks of bitrow.And and bitrow.Or.
-/
import Derived.Test.YtjciahobhaaheaaG
namespace Go.Proofs
open Go Go.Ytjciahobhaaheaa
set_option linter.unusedVariables false
set_option linter.unusedSimpArgs false
set_option maxRecDepth 10000

/-! ### weighbridge/bitrow.And, params 1 -/
def c33r0 : List AStm := [.op (some 2) none (.mv (.c .nils))]
def c33r1 : List AStm := [.op (some 7) none (.mv (.t 0)),
    .op (some 8) none (.len false (.t 7)),
    .op (some 9) none (.bin .eql (.t 8) (.c (.int .i64 0)))]
def c33r2 : List AStm := [.op (some 2) none (.mv (.c .nils))]
def c33r3 : List AStm := [.op (some 10) none (.mv (.t 0)),
    .op (some 11) none (.ixs 1 (.t 10) (.c (.int .i64 0))),
    .op (some 12) none (.load none (.t 11)),
    .call (some 13) none (.c (.fn (.func 43) [] [])) [(.t 12)],
    .op (some 3) none (.mv (.t 13))]
def c33r4 : List AStm := [.op (some 14) none (.mv (.t 0)),
    .op (some 15) none (.slc 1 (.t 14) (some (.c (.int .i64 1))) none),
    .op (some 16) none (.len false (.t 15)),
    .op (some 17) none (.mv (.c (.int .i64 0)))]
def c33r5 : List AStm := [.op (some 18) none (.bin .lss (.t 17) (.t 16))]
def c33r6 : List AStm := [.op (some 19) none (.ixs 1 (.t 15) (.t 17)),
    .op (some 20) none (.load none (.t 19)),
    .op (some 5) none (.mv (.t 20))]
def c33r7 : List AStm := [.op (some 21) none (.mv (.t 3)),
    .op (some 22) none (.mv (.t 3)),
    .op (some 23) none (.len false (.t 22)),
    .op (some 24) none (.mv (.t 5)),
    .op (some 25) none (.len false (.t 24)),
    .op (some 26) none (.mnx false (.t 23) (.t 25)),
    .op (some 27) none (.slc 1 (.t 21) none (some (.t 26))),
    .op (some 3) none (.mv (.t 27))]
def c33r8 : List AStm := [.op (some 28) none (.mv (.t 3)),
    .op (some 29) none (.len false (.t 28)),
    .op (some 30) none (.mv (.c (.int .i64 0)))]
def c33r9 : List AStm := [.op (some 31) none (.bin .lss (.t 30) (.t 29))]
def c33r10 : List AStm := [.op (some 32) none (.mv (.t 30)),
    .op (some 6) none (.mv (.t 32))]
def c33r11 : List AStm := [.op (some 33) none (.mv (.t 3)),
    .op (some 34) none (.mv (.t 6)),
    .op (some 35) none (.ixs 1 (.t 33) (.t 34)),
    .op (some 36) none (.load none (.t 35)),
    .op (some 37) none (.mv (.t 5)),
    .op (some 38) none (.mv (.t 6)),
    .op (some 39) none (.ixs 1 (.t 37) (.t 38)),
    .op (some 40) none (.load none (.t 39)),
    .op (some 41) none (.bin .and (.t 36) (.t 40)),
    .op (some 42) none (.ixs 1 (.t 33) (.t 34)),
    .op none none (.store 1 (.t 42) (.t 41))]
def c33r12 : List AStm := []
def c33r13 : List AStm := [.op (some 43) none (.bin .add (.t 30) (.c (.int .i64 1))),
    .op (some 30) none (.mv (.t 43))]
def c33l14 : AC := .seq (.reg c33r9) (.seq (.cond (.t 31) (.skip) (.exit 2)) (.seq (.block 3 (.seq (.reg c33r10) (.dreg c33r11 c33r12))) (.reg c33r13)))
def c33r15 : List AStm := [.op (some 44) none (.bin .add (.t 17) (.c (.int .i64 1))),
    .op (some 17) none (.mv (.t 44))]
def c33l16 : AC := .seq (.reg c33r5) (.seq (.cond (.t 18) (.skip) (.exit 0)) (.seq (.block 1 (.seq (.reg c33r6) (.seq (.reg c33r7) (.seq (.reg c33r8) (.block 2 (.loop c33l14)))))) (.reg c33r15)))
def c33r17 : List AStm := [.op (some 45) none (.mv (.t 3)),
    .op (some 2) none (.mv (.t 45))]
def c33 : CF := ⟨.seq (.reg c33r0) (.seq (.seq (.reg c33r1) (.cond (.t 9) (.seq (.reg c33r2) (.ret)) (.skip))) (.seq (.reg c33r3) (.seq (.seq (.reg c33r4) (.block 0 (.loop c33l16))) (.seq (.reg c33r17) (.ret))))), [.tmp 2], 46⟩
theorem cf33 : cfun Try.prog 33 = some c33 := by kernel_rfl

/-! ### weighbridge/bitrow.Or, params 1 -/
def c35r0 : List AStm := [.op (some 2) none (.mv (.c .nils))]
def c35r1 : List AStm := [.op (some 3) none (.mv (.c .nils))]
def c35r2 : List AStm := [.op (some 8) none (.mv (.t 0)),
    .op (some 9) none (.len false (.t 8)),
    .op (some 10) none (.mv (.c (.int .i64 0)))]
def c35r3 : List AStm := [.op (some 11) none (.bin .lss (.t 10) (.t 9))]
def c35r4 : List AStm := [.op (some 12) none (.ixs 1 (.t 8) (.t 10)),
    .op (some 13) none (.load none (.t 12)),
    .op (some 5) none (.mv (.t 13))]
def c35r5 : List AStm := [.op (some 14) none (.mv (.t 3)),
    .op (some 15) none (.len false (.t 14)),
    .op (some 16) none (.mv (.t 5)),
    .op (some 17) none (.len false (.t 16)),
    .op (some 18) none (.bin .lss (.t 15) (.t 17))]
def c35r6 : List AStm := [.op (some 19) none (.mv (.t 3)),
    .op (some 20) none (.bslice 1 [(.int .u64 0)] 1 [(0, 1, (.c (.int .u64 0)))]),
    .op (some 21) none (.append false 1 8 (.t 19) (.t 20)),
    .op (some 3) none (.mv (.t 21))]
def c35l7 : AC := .seq (.seq (.reg c35r5) (.cond (.t 18) (.skip) (.exit 2))) (.block 3 (.reg c35r6))
def c35r8 : List AStm := [.op (some 22) none (.mv (.t 5)),
    .op (some 23) none (.len false (.t 22)),
    .op (some 24) none (.mv (.c (.int .i64 0)))]
def c35r9 : List AStm := [.op (some 25) none (.bin .lss (.t 24) (.t 23))]
def c35r10 : List AStm := [.op (some 26) none (.mv (.t 24)),
    .op (some 27) none (.ixs 1 (.t 22) (.t 24)),
    .op (some 28) none (.load none (.t 27)),
    .op (some 6) none (.mv (.t 26)),
    .op (some 7) none (.mv (.t 28))]
def c35r11 : List AStm := [.op (some 29) none (.mv (.t 3)),
    .op (some 30) none (.mv (.t 6)),
    .op (some 31) none (.ixs 1 (.t 29) (.t 30)),
    .op (some 32) none (.load none (.t 31)),
    .op (some 33) none (.mv (.t 7)),
    .op (some 34) none (.bin .or (.t 32) (.t 33)),
    .op (some 35) none (.ixs 1 (.t 29) (.t 30)),
    .op none none (.store 1 (.t 35) (.t 34))]
def c35r12 : List AStm := [.op (some 36) none (.bin .add (.t 24) (.c (.int .i64 1))),
    .op (some 24) none (.mv (.t 36))]
def c35l13 : AC := .seq (.reg c35r9) (.seq (.cond (.t 25) (.skip) (.exit 4)) (.seq (.block 5 (.seq (.reg c35r10) (.reg c35r11))) (.reg c35r12)))
def c35r14 : List AStm := [.op (some 37) none (.bin .add (.t 10) (.c (.int .i64 1))),
    .op (some 10) none (.mv (.t 37))]
def c35l15 : AC := .seq (.reg c35r3) (.seq (.cond (.t 11) (.skip) (.exit 0)) (.seq (.block 1 (.seq (.reg c35r4) (.seq (.block 2 (.loop c35l7)) (.seq (.reg c35r8) (.block 4 (.loop c35l13)))))) (.reg c35r14)))
def c35r16 : List AStm := [.op (some 38) none (.mv (.t 3)),
    .op (some 2) none (.mv (.t 38))]
def c35 : CF := ⟨.seq (.reg c35r0) (.seq (.reg c35r1) (.seq (.seq (.reg c35r2) (.block 0 (.loop c35l15))) (.seq (.reg c35r16) (.ret)))), [.tmp 2], 39⟩
theorem cf35 : cfun Try.prog 35 = some c35 := by kernel_rfl



/-- A row made here, or a front of it, behind the heap h. -/
def OutSt (h : Heap) (ws : List Nat) (d : D) (H : Heap) : Prop :=
  (d = .nils ∧ ws = [] ∧ H = []) ∨ ∃ CS N, H = [.grow 1 (u64s CS) N] ∧ CS.length = N ∧ ((d = .own h.length N ∧ ws = CS) ∨ (∃ k, d = .osl h.length N 0 k ∧ k ≤ N ∧ ws = CS.take k) ∨ (d = .sl [] 0 false ∧ ws = []))
theorem OutSt.of_new {h h' : Heap} {ws : List Nat} {d : D} (hn : NewSl h (u64s ws) ws.length d h') : ∃ H, h' = h ++ H ∧ OutSt h ws d H := by
  rcases hn with ⟨rfl, _, h0, rfl⟩ | ⟨rfl, rfl⟩
  · exact ⟨[], (List.append_nil _).symm, .inl ⟨rfl, List.length_eq_zero_iff.1 h0, rfl⟩⟩
  · exact ⟨_, rfl, .inr ⟨ws, _, rfl, rfl, .inl ⟨rfl, rfl⟩⟩⟩
theorem last_get (h : Heap) (b : Blk) : (h ++ [b])[h.length]? = some b := by simp
theorem u64s_takes (ws : List Nat) (k : Nat) : (u64s ws).take k = u64s (ws.take k) := by simp [u64s, List.map_take]
theorem OutSt.sl {h H : Heap} {ws : List Nat} {d : D} (ho : OutSt h ws d H) : SlOf (h ++ H) 1 d (u64s ws) ws.length := by
  rcases ho with ⟨rfl, rfl, rfl⟩ | ⟨CS, N, rfl, hN, ⟨rfl, rfl⟩ | ⟨k, rfl, hk, rfl⟩ | ⟨rfl, rfl⟩⟩
  · exact nils_of _ _
  · rw [hN]
    exact own_of (last_get _ _) (by rw [u64s_length]; omega)
  · refine SlOf.of ?_ (by rw [u64s_length]; omega)
    rw [sc_osl, last_get]
    simp only [growOf_grow, Option.bind_some]
    rw [if_pos ⟨trivial, trivial, by rw [u64s_length]; omega⟩, List.drop_zero, Nat.mul_one, u64s_takes, List.length_take]
    rw [Nat.min_eq_left (by omega)]
  · exact sl_of _ _ [] 0 _ rfl
theorem bnd_lo (b : Nat) : bnd none 0 b = some 0 := rfl
theorem OutSt.cut {h H : Heap} {ws : List Nat} {d : D} (ho : OutSt h ws d H) {m : Nat} (hm : m ≤ ws.length) :
    ∃ d', subSl (h ++ H) 1 d none (some (.int .i64 (m : Int))) = some d' ∧ OutSt h (ws.take m) d' H := by
  rcases ho with ⟨rfl, rfl, rfl⟩ | ⟨CS, N, rfl, hN, ⟨rfl, rfl⟩ | ⟨k, rfl, hk, rfl⟩ | ⟨rfl, rfl⟩⟩
  · have : m = 0 := by simpa using hm
    subst this
    exact ⟨.nils, by rw [ss_nils]; simp [bnd], .inl ⟨rfl, rfl, rfl⟩⟩
  · rw [ss_own, last_get]
    have hb : bnd (some (.int .i64 (m : Int))) N N = some m := by
      simp only [bnd]; rw [if_pos ⟨by omega, by omega⟩, Int.toNat_natCast]
    simp only [growOf_grow, Option.bind_some, and_self, if_true, hb, bnd_lo]
    by_cases h0 : 0 < N
    · rw [if_pos h0, Nat.zero_mul, Nat.sub_zero]
      exact ⟨_, rfl, .inr ⟨ws, N, rfl, hN, .inr (.inl ⟨m, rfl, by omega, rfl⟩)⟩⟩
    · rw [if_neg h0]
      have : ws = [] := List.length_eq_zero_iff.1 (by omega)
      subst this
      exact ⟨_, rfl, .inr ⟨[], N, rfl, hN, .inr (.inr ⟨rfl, by simp⟩)⟩⟩
  · rw [List.length_take] at hm
    rw [ss_osl, last_get]
    have hb : bnd (some (.int .i64 (m : Int))) k k = some m := by
      simp only [bnd]; rw [if_pos ⟨by omega, by omega⟩, Int.toNat_natCast]
    simp only [growOf_grow, Option.bind_some, and_self, if_true, hb, bnd_lo]
    by_cases h0 : 0 < k
    · rw [if_pos h0, Nat.zero_mul, Nat.sub_zero, Nat.add_zero]
      exact ⟨_, rfl, .inr ⟨CS, N, rfl, hN, .inr (.inl ⟨m, rfl, by omega, by rw [List.take_take, Nat.min_eq_left (by omega)]⟩)⟩⟩
    · rw [if_neg h0]
      have : k = 0 := by omega
      subst this
      exact ⟨_, rfl, .inr ⟨CS, N, rfl, hN, .inr (.inr ⟨rfl, by simp⟩)⟩⟩
  · have : m = 0 := by simpa using hm
    subst this
    exact ⟨.sl [] 0 false, by rw [ss_sl]; simp [bnd], .inr ⟨CS, N, rfl, hN, .inr (.inr ⟨rfl, by simp⟩)⟩⟩
theorem idx_nat {k : IntKind} {i n : Nat} (h : i < n) : idx (.int k (i : Int)) n = some i := by
  simp only [idx]; rw [if_pos ⟨by omega, by omega⟩, Int.toNat_natCast]
theorem splice_one {cs : List D} {i : Nat} (h : i < cs.length) (x : D) : splice cs i [x] = cs.set i x := by
  have := splice1 (cs := cs) (off := i) (v := x)
  simpa [h] using this
theorem OutSt.at {h H : Heap} {ws : List Nat} {d : D} (ho : OutSt h ws d H) {i : Nat} (hi : i < ws.length) :
    ∃ p cs, elemAddr (h ++ H) 1 d (.int .i64 (i : Int)) = some p ∧ ptrCells (h ++ H) p = some cs ∧ cs[0]? = some (.int .u64 ((ws.getD i 0 : Nat) : Int)) ∧
      ∀ x : Nat, ∃ H', storeAt (h ++ H) p [.int .u64 (x : Int)] = some (h ++ H') ∧ OutSt h (ws.set i x) d H' := by
  obtain ⟨p, cs, e1, e2, e3⟩ := ho.sl.elem (k := .i64) (i := (i : Int)) (by omega) (by omega)
  have e4 := e3 0 (by omega)
  rw [show ((i : Int).toNat * 1 + 0) = i by omega, u64s_get hi] at e4
  refine ⟨p, cs, e1, e2, e4, fun x => ?_⟩
  have hst : ∀ (CS : List Nat) (N : Nat), CS.length = N → i < CS.length → storeAt (h ++ [.grow 1 (u64s CS) N]) (.eref h.length N i) [.int .u64 (x : Int)] = some (h ++ [.grow 1 (u64s (CS.set i x)) N]) := by
    intro CS N hN hlt
    rw [sa_eref, last_get]
    simp only [growW_grow, Option.bind_some]
    rw [if_pos ⟨trivial, by rw [u64s_length]; simp; omega⟩, splice_one (by rw [u64s_length]; omega), u64s_set]
    simp
  rcases ho with ⟨rfl, rfl, rfl⟩ | ⟨CS, N, rfl, hN, ⟨rfl, rfl⟩ | ⟨k, rfl, hk, rfl⟩ | ⟨rfl, rfl⟩⟩
  · simp at hi
  · rw [ea_own, last_get] at e1
    simp only [growOf_grow, Option.bind_some, and_self, if_true] at e1
    rw [idx_nat (by omega)] at e1
    simp only [Option.map_some, Option.some.injEq, Nat.mul_one] at e1
    subst e1
    exact ⟨_, hst ws N hN hi, .inr ⟨ws.set i x, N, rfl, by simpa using hN, .inl ⟨rfl, rfl⟩⟩⟩
  · rw [ea_osl, last_get] at e1
    have hik : i < k := by rw [List.length_take] at hi; omega
    simp only [growOf_grow, Option.bind_some, and_self, if_true] at e1
    rw [idx_nat hik] at e1
    simp only [Option.map_some, Option.some.injEq, Nat.mul_one, Nat.zero_add] at e1
    subst e1
    exact ⟨_, hst CS N hN (by omega), .inr ⟨CS.set i x, N, rfl, by simpa using hN, .inr (.inl ⟨k, rfl, hk, by rw [List.take_set]⟩)⟩⟩
  · simp at hi
theorem OutSt.fin {h H : Heap} {ws : List Nat} {d : D} (ho : OutSt h ws d H) : FinOk h (h ++ H) [d] (fun d h' => ∃ L, h' = h ++ L ∧ SlOf h' 1 d (u64s ws) ws.length) :=
  FinOk.all ⟨H, rfl, ho.sl⟩

theorem subSl_low {h : Heap} {sz : Nat} {d p : D} {lo hi : Option D} (hd : subSl h sz d lo hi = some p) (L : Heap) : subSl (h ++ L) sz d lo hi = some p := by
  have key : ∀ r, h[r]? ≠ none → (h ++ L)[r]? = h[r]? := fun r hr => get_low (by
    rcases Nat.lt_or_ge r h.length with g | g
    · exact g
    · exact absurd (List.getElem?_eq_none g) hr)
  cases d <;> first | exact hd | skip
  all_goals
    rename_i r _
    simp only [subSl] at hd ⊢
    rw [key]
    · exact hd
    · intro e; rw [e] at hd; cases hd
theorem mix_and (a b : List Nat) : mixTo (· &&& ·) (a.take (min a.length b.length)) b (min a.length b.length) = andP a b := by
  refine list_ext_getD (by rw [mixTo_length, andP_length, List.length_take]; omega) fun j hj => ?_
  rw [mixTo_length] at hj
  have hj2 : j < min a.length b.length := by rw [List.length_take] at hj; omega
  rw [mixTo_getD _ _ _ _ _ hj, if_pos hj2, andP_getD, List.getD_eq_getElem?_getD, List.getElem?_take, if_pos hj2, ← List.getD_eq_getElem?_getD]

theorem and_fc (h : Heap) (rows : D) (rs : List (List Nat)) (hr : RowsOf h rows rs) (hlen : rs.length ≤ 1048576) (hl : ∀ x ∈ rs, x.length ≤ 1048576) (hw : ∀ x ∈ rs, Words x) :
    FC Try.prog 33 [rows] h fun d h' => ∃ L, h' = h ++ L ∧ SlOf h' 1 d (u64s (andR rs)) (andR rs).length := by
  obtain ⟨ds, s, hds⟩ := hr
  refine FC.goes cf33 ?_; simp only [c33]; simp only [List.length_cons, List.length_nil, Nat.reduceAdd, Nat.reduceSub, List.replicate_succ, List.replicate_zero, List.cons_append, List.nil_append]
  cases rs with
  | nil =>
    simp (disch := first | omega | (simp only [List.length_append, List.length_cons, List.length_nil]; omega)) only [c33r0, c33r1, c33r2, c33r3, c33r4, c33r5, c33r6, c33r7, c33r8, c33r9, c33r10, c33r11, c33r12, c33r13, c33l14, c33r15, c33l16, c33r17, s.lend, s.sort, go_sem, ↓reduceIte, reduceCtorEq, Nat.reduceAdd, Nat.reduceSub, Nat.reducePow, Nat.reduceMul, Nat.reduceEqDiff, Nat.reduceLT, Nat.reduceLeDiff, Int.reduceToNat, Int.reduceLT, Int.reduceLE, Int.reduceEq, Int.reduceNeg, Int.reduceAdd, Int.reduceSub, Int.reduceMul]
    exact FinOk.all ⟨[], (List.append_nil _).symm, nils_of _ _⟩
  | cons r rs =>
    have hn0 : ¬ ((rs.length + 1 : Nat) : Int) = 0 := by omega
    obtain ⟨p, cs, e, q1, q2, q3, s0⟩ := RowsOf.elem ⟨ds, s, hds⟩ (k := 0) (by simp)
    have q1' := q1
    simp only [Int.cast_ofNat_Int] at q1'
    rw [show (r :: rs).getD 0 [] = r from rfl] at s0
    have hrl := hl r (by simp)
    have hlen' : rs.length + 1 ≤ 1048576 := hlen
    simp (disch := first | omega | (simp only [List.length_append, List.length_cons, List.length_nil]; omega)) only [c33r0, c33r1, c33r2, c33r3, c33r4, c33r5, c33r6, c33r7, c33r8, c33r9, c33r10, c33r11, c33r12, c33r13, c33l14, c33r15, c33l16, c33r17, s.lend, s.sort, hn0, q1', q2, q3, go_sem, ↓reduceIte, reduceCtorEq, Nat.reduceAdd, Nat.reduceSub, Nat.reducePow, Nat.reduceMul, Nat.reduceEqDiff, Nat.reduceLT, Nat.reduceLeDiff, Int.reduceToNat, Int.reduceLT, Int.reduceLE, Int.reduceEq, Int.reduceNeg, Int.reduceAdd, Int.reduceSub, Int.reduceMul]
    refine gfc_of (clone_fc _ e _ _ s0 hrl (fun k => under_u64s k r) (one_u64s r)) ?_
    intro d h' hn
    obtain ⟨H, rfl, ho⟩ := OutSt.of_new hn
    obtain ⟨p2, g1, g2⟩ := s.sub (lo := some (.int .i64 1)) (hi := none) (a := 1) (b := rs.length + 1) rfl (by simp only [bnd]; rw [if_pos ⟨by omega, by omega⟩]; rfl) (by omega) (by simp)
    have g1' := subSl_low g1 H
    rw [Nat.add_sub_cancel] at g2
    have g3 := g2.low H
    simp (disch := first | omega | (simp only [List.length_append, List.length_cons, List.length_nil]; omega)) only [g1', g3.lend, g3.sort, go_sem, ↓reduceIte, reduceCtorEq, Nat.reduceAdd, Nat.reduceSub, Nat.reducePow, Nat.reduceMul, Nat.reduceEqDiff, Nat.reduceLT, Nat.reduceLeDiff, Int.reduceToNat, Int.reduceLT, Int.reduceLE, Int.reduceEq, Int.reduceNeg, Int.reduceAdd, Int.reduceSub, Int.reduceMul]
    refine loop_to rs.length (fun k st => ∃ (d : D) (H : Heap), OutSt h ((rs.take k).foldl andP r) d H ∧ ∃ (j : Nat → D), st = ⟨(j 0 :: j 1 :: j 2 :: d :: j 4 :: j 5 :: j 6 :: j 7 :: j 8 :: j 9 :: j 10 :: j 11 :: j 12 :: j 13 :: j 14 :: p2 :: .int .i64 (rs.length : Int) :: .int .i64 (k : Int) :: j 18 :: j 19 :: j 20 :: j 21 :: j 22 :: j 23 :: j 24 :: j 25 :: j 26 :: j 27 :: j 28 :: j 29 :: j 30 :: j 31 :: j 32 :: j 33 :: j 34 :: j 35 :: j 36 :: j 37 :: j 38 :: j 39 :: j 40 :: j 41 :: j 42 :: j 43 :: j 44 :: j 45 :: []), h ++ H⟩) ⟨d, H, ho, junk rfl⟩ ?_
    rintro k st hk ⟨d, H, ho, j, rfl⟩
    by_cases hkn : k < rs.length
    · have hkn' : (k : Int) < rs.length := by omega
      obtain ⟨e, h3, h4⟩ := hds (k + 1) (by simp; omega)
      rw [show (r :: rs).getD (k + 1) [] = rs.getD k [] from rfl] at h4
      obtain ⟨p3, cs3, f1, f2, f3⟩ := (g2.low H).elem (k := .i64) (i := (k : Int)) (by omega) (by omega)
      have f4 := f3 0 (by omega)
      rw [show ((k : Int).toNat * 1 + 0) = k by omega, Nat.mul_one, Nat.mul_one, List.getElem?_take, if_pos hkn, List.getElem?_drop, show 1 + k = k + 1 by omega, h3] at f4
      have hbm : rs.getD k [] ∈ rs := by
        rw [List.getD_eq_getElem?_getD, List.getElem?_eq_getElem hkn]; exact List.getElem_mem hkn
      have hbl := hl _ (List.mem_cons_of_mem _ hbm)
      have hfold : (rs.take (k + 1)).foldl andP r = andP ((rs.take k).foldl andP r) (rs.getD k []) := by
        rw [List.take_add_one, List.foldl_append, List.getD_eq_getElem?_getD, List.getElem?_eq_getElem hkn]; rfl
      have hww := andF_words (rs.take k) r (hw r (by simp))
      have hbw := hw _ (List.mem_cons_of_mem _ hbm)
      have hal : ((rs.take k).foldl andP r).length ≤ 1048576 := by
        rw [andF_length]
        have := minL_le (rs.take k) r.length
        omega
      rw [hfold, ← mix_and]
      generalize (rs.take k).foldl andP r = a at *
      generalize rs.getD k [] = b at *
      have s1 := ho.sl
      have s2 := h4.low H
      have m1 : (if (b.length : Int) < (a.length : Int) then (b.length : Int) else (a.length : Int)) = ((min a.length b.length : Nat) : Int) := by
        split <;> omega
      obtain ⟨d', u1, u2⟩ := ho.cut (m := min a.length b.length) (by omega)
      have s3 := u2.sl
      have hlt : (a.take (min a.length b.length)).length = min a.length b.length := by rw [List.length_take]; omega
      rw [hlt] at s3
      simp (disch := first | omega | (simp only [List.length_append, List.length_cons, List.length_nil]; omega)) only [c33r0, c33r1, c33r2, c33r3, c33r4, c33r5, c33r6, c33r7, c33r8, c33r9, c33r10, c33r11, c33r12, c33r13, c33l14, c33r15, c33l16, c33r17, hkn', f1, f2, f4, s1.lend, s1.sort, s2.lend, s2.sort, m1, u1, s3.lend, s3.sort, go_sem, ↓reduceIte, reduceCtorEq, Nat.reduceAdd, Nat.reduceSub, Nat.reducePow, Nat.reduceMul, Nat.reduceEqDiff, Nat.reduceLT, Nat.reduceLeDiff, Int.reduceToNat, Int.reduceLT, Int.reduceLE, Int.reduceEq, Int.reduceNeg, Int.reduceAdd, Int.reduceSub, Int.reduceMul]
      generalize hm : min a.length b.length = m at *
      have hwa : Words (a.take m) := fun w hw => hww w (List.mem_of_mem_take hw)
      generalize ha2 : a.take m = a2 at *
      refine loop_to m (fun i st => ∃ (H : Heap), OutSt h (mixTo (· &&& ·) a2 b i) d' H ∧ ∃ (j : Nat → D), st = ⟨(j 0 :: j 1 :: j 2 :: d' :: j 4 :: e :: j 6 :: j 7 :: j 8 :: j 9 :: j 10 :: j 11 :: j 12 :: j 13 :: j 14 :: p2 :: .int .i64 (rs.length : Int) :: .int .i64 (k : Int) :: j 18 :: j 19 :: j 20 :: j 21 :: j 22 :: j 23 :: j 24 :: j 25 :: j 26 :: j 27 :: j 28 :: .int .i64 (m : Int) :: .int .i64 (i : Int) :: j 31 :: j 32 :: j 33 :: j 34 :: j 35 :: j 36 :: j 37 :: j 38 :: j 39 :: j 40 :: j 41 :: j 42 :: j 43 :: j 44 :: j 45 :: []), h ++ H⟩) ⟨H, by rw [mixTo_zero]; exact u2, junk rfl⟩ ?_
      rintro i st hi ⟨H, hi2, j, rfl⟩
      by_cases him : i < m
      · have him' : (i : Int) < m := by omega
        have hl2 := mixTo_length (· &&& ·) a2 b i
        obtain ⟨p4, cs4, w1, w2, w3, w4⟩ := hi2.at (i := i) (by omega)
        obtain ⟨H', w5, w6⟩ := w4 (a2.getD i 0 &&& b.getD i 0)
        rw [mixTo_set _ _ _ _ (by omega)] at w6
        rw [mixTo_getD _ _ _ _ _ (by omega), if_neg (by omega)] at w3
        have s5 := h4.low H
        obtain ⟨p5, cs5, v1, v2, v3⟩ := s5.elem (k := .i64) (i := (i : Int)) (by omega) (by omega)
        have v4 := v3 0 (by omega)
        rw [show ((i : Int).toNat * 1 + 0) = i by omega, u64s_get (by omega)] at v4
        have a1 := and_u64 (hwa.getD i) (hbw.getD i)
        have e5 : IntKind.i64.wrap ((i : Int) + 1) = ((i + 1 : Nat) : Int) := by rw [w_i64 (by omega) (by omega)]; omega
        simp (disch := first | omega | (simp only [List.length_append, List.length_cons, List.length_nil]; omega)) only [c33r0, c33r1, c33r2, c33r3, c33r4, c33r5, c33r6, c33r7, c33r8, c33r9, c33r10, c33r11, c33r12, c33r13, c33l14, c33r15, c33l16, c33r17, him', w1, w2, w3, v1, v2, v4, a1, w5, e5, go_sem, ↓reduceIte, reduceCtorEq, Nat.reduceAdd, Nat.reduceSub, Nat.reducePow, Nat.reduceMul, Nat.reduceEqDiff, Nat.reduceLT, Nat.reduceLeDiff, Int.reduceToNat, Int.reduceLT, Int.reduceLE, Int.reduceEq, Int.reduceNeg, Int.reduceAdd, Int.reduceSub, Int.reduceMul]
        exact ⟨him, H', w6, junk rfl⟩
      · have him' : ¬ (i : Int) < m := by omega
        have : i = m := by omega
        subst this
        have e5 : IntKind.i64.wrap ((k : Int) + 1) = ((k + 1 : Nat) : Int) := by rw [w_i64 (by omega) (by omega)]; omega
        simp (disch := first | omega | (simp only [List.length_append, List.length_cons, List.length_nil]; omega)) only [c33r0, c33r1, c33r2, c33r3, c33r4, c33r5, c33r6, c33r7, c33r8, c33r9, c33r10, c33r11, c33r12, c33r13, c33l14, c33r15, c33l16, c33r17, him', e5, go_sem, ↓reduceIte, reduceCtorEq, Nat.reduceAdd, Nat.reduceSub, Nat.reducePow, Nat.reduceMul, Nat.reduceEqDiff, Nat.reduceLT, Nat.reduceLeDiff, Int.reduceToNat, Int.reduceLT, Int.reduceLE, Int.reduceEq, Int.reduceNeg, Int.reduceAdd, Int.reduceSub, Int.reduceMul]
        exact ⟨hkn, _, H, hi2, junk rfl⟩
    · have hkn' : ¬ (k : Int) < rs.length := by omega
      have : k = rs.length := by omega
      subst this
      simp (disch := first | omega | (simp only [List.length_append, List.length_cons, List.length_nil]; omega)) only [c33r0, c33r1, c33r2, c33r3, c33r4, c33r5, c33r6, c33r7, c33r8, c33r9, c33r10, c33r11, c33r12, c33r13, c33l14, c33r15, c33l16, c33r17, hkn', go_sem, ↓reduceIte, reduceCtorEq, Nat.reduceAdd, Nat.reduceSub, Nat.reducePow, Nat.reduceMul, Nat.reduceEqDiff, Nat.reduceLT, Nat.reduceLeDiff, Int.reduceToNat, Int.reduceLT, Int.reduceLE, Int.reduceEq, Int.reduceNeg, Int.reduceAdd, Int.reduceSub, Int.reduceMul]
      rw [List.take_length] at ho
      exact ho.fin

/-- A row that has grown here can be written. -/
theorem AppSt.at {h H : Heap} {ws : List Nat} {d : D} (ha : AppSt h (u64s ws) ws.length d H) {i : Nat} (hi : i < ws.length) :
    ∃ p cs, elemAddr (h ++ H) 1 d (.int .i64 (i : Int)) = some p ∧ ptrCells (h ++ H) p = some cs ∧ cs[0]? = some (.int .u64 ((ws.getD i 0 : Nat) : Int)) ∧
      ∀ x : Nat, ∃ H', storeAt (h ++ H) p [.int .u64 (x : Int)] = some (h ++ H') ∧ AppSt h (u64s (ws.set i x)) (ws.set i x).length d H' := by
  have s := ha.sl (u64s_length ws)
  obtain ⟨p, cs, e1, e2, e3⟩ := s.elem (k := .i64) (i := (i : Int)) (by omega) (by omega)
  have e4 := e3 0 (by omega)
  rw [show ((i : Int).toNat * 1 + 0) = i by omega, u64s_get hi] at e4
  refine ⟨p, cs, e1, e2, e4, fun x => ?_⟩
  rcases ha with ⟨h0, _⟩ | ⟨h0, rfl, b, L, rfl⟩
  · omega
  · have hg : (h ++ b :: .grow 1 (u64s ws) ws.length :: L)[h.length + 1]? = some (.grow 1 (u64s ws) ws.length) := by
      rw [List.getElem?_append_right (by omega), show h.length + 1 - h.length = 1 by omega]; rfl
    rw [ea_own, hg] at e1
    simp only [growOf_grow, Option.bind_some, and_self, if_true] at e1
    rw [idx_nat hi] at e1
    simp only [Option.map_some, Option.some.injEq, Nat.mul_one] at e1
    subst e1
    refine ⟨b :: .grow 1 (u64s (ws.set i x)) ws.length :: L, ?_, .inr ⟨by rw [List.length_set]; omega, by rw [List.length_set], b, L, by rw [List.length_set]⟩⟩
    rw [sa_eref, hg]
    simp only [growW_grow, Option.bind_some]
    rw [if_pos ⟨trivial, by rw [u64s_length]; simp; omega⟩, splice_one (by rw [u64s_length]; omega), u64s_set]
    rw [List.set_append_right _ _ (by omega), show h.length + 1 - h.length = 1 by omega]
    rfl
theorem u64s_zero (ws : List Nat) : u64s (ws ++ [0]) = u64s ws ++ [.int .u64 0] := by simp [u64s]
theorem mix_or (a b : List Nat) : mixTo (· ||| ·) (a ++ List.replicate (b.length - a.length) 0) b b.length = orP a b := by
  refine list_ext_getD (by rw [mixTo_length, orP_length, List.length_append, List.length_replicate]; omega) fun j hj => ?_
  rw [mixTo_length] at hj
  have hg : (a ++ List.replicate (b.length - a.length) 0).getD j 0 = a.getD j 0 := by
    rcases Nat.lt_or_ge j a.length with h | h
    · rw [List.getD_eq_getElem?_getD, List.getElem?_append_left h, ← List.getD_eq_getElem?_getD]
    · rw [getD_out h, List.getD_eq_getElem?_getD, List.getElem?_append_right h, List.getElem?_replicate]
      split <;> rfl
  rw [mixTo_getD _ _ _ _ _ hj, orP_getD, hg]
  by_cases h : j < b.length
  · rw [if_pos h]
  · rw [if_neg h, getD_out (a := b) (by omega)]; simp

theorem or_fc (h : Heap) (rows : D) (rs : List (List Nat)) (hr : RowsOf h rows rs) (hlen : rs.length ≤ 1048576) (hl : ∀ x ∈ rs, x.length ≤ 1048576) (hw : ∀ x ∈ rs, Words x) :
    FC Try.prog 35 [rows] h fun d h' => NewSl h (u64s (orR rs)) (orR rs).length d h' := by
  obtain ⟨ds, s, hds⟩ := hr
  refine FC.goes cf35 ?_; simp only [c35]; simp only [List.length_cons, List.length_nil, Nat.reduceAdd, Nat.reduceSub, List.replicate_succ, List.replicate_zero, List.cons_append, List.nil_append]
  simp (disch := first | omega | (simp only [List.length_append, List.length_cons, List.length_nil]; omega)) only [c35r0, c35r1, c35r2, c35r3, c35r4, c35r5, c35r6, c35l7, c35r8, c35r9, c35r10, c35r11, c35r12, c35l13, c35r14, c35l15, c35r16, s.lend, s.sort, go_sem, ↓reduceIte, reduceCtorEq, Nat.reduceAdd, Nat.reduceSub, Nat.reducePow, Nat.reduceMul, Nat.reduceEqDiff, Nat.reduceLT, Nat.reduceLeDiff, Int.reduceToNat, Int.reduceLT, Int.reduceLE, Int.reduceEq, Int.reduceNeg, Int.reduceAdd, Int.reduceSub, Int.reduceMul]
  refine loop_to rs.length (fun k st => ∃ (d : D) (H : Heap), AppSt h (u64s ((rs.take k).foldl orP [])) ((rs.take k).foldl orP []).length d H ∧ ∃ (j : Nat → D), st = ⟨(j 0 :: j 1 :: j 2 :: d :: j 4 :: j 5 :: j 6 :: j 7 :: rows :: .int .i64 (rs.length : Int) :: .int .i64 (k : Int) :: j 11 :: j 12 :: j 13 :: j 14 :: j 15 :: j 16 :: j 17 :: j 18 :: j 19 :: j 20 :: j 21 :: j 22 :: j 23 :: j 24 :: j 25 :: j 26 :: j 27 :: j 28 :: j 29 :: j 30 :: j 31 :: j 32 :: j 33 :: j 34 :: j 35 :: j 36 :: j 37 :: j 38 :: []), h ++ H⟩) ⟨.nils, [], .inl ⟨rfl, rfl, rfl, rfl⟩, by rw [List.append_nil]; exact junk rfl⟩ ?_
  rintro k st hk ⟨d, H, ha, j, rfl⟩
  by_cases hkn : k < rs.length
  · have hkn' : (k : Int) < rs.length := by omega
    obtain ⟨p3, cs3, e, f1, f2, f4, h4⟩ := RowsOf.elem (RowsOf.low ⟨ds, s, hds⟩ H) hkn
    obtain ⟨e0, h30, h40⟩ := hds k hkn
    have hee : e0 = e := by
      obtain ⟨p, cs, q1, q2, q3⟩ := (s.low H).elem (k := .i64) (i := (k : Int)) (by omega) (by omega)
      have q4 := q3 0 (by omega)
      rw [show ((k : Int).toNat * 1 + 0) = k by omega, h30] at q4
      rw [f1] at q1; cases q1
      rw [f2] at q2; cases q2
      rw [f4] at q4
      exact (Option.some.inj q4).symm
    subst hee
    have hbm : rs.getD k [] ∈ rs := by
      rw [List.getD_eq_getElem?_getD, List.getElem?_eq_getElem hkn]; exact List.getElem_mem hkn
    have hbl := hl _ hbm
    have hfold : (rs.take (k + 1)).foldl orP [] = orP ((rs.take k).foldl orP []) (rs.getD k []) := by
      rw [List.take_add_one, List.foldl_append, List.getD_eq_getElem?_getD, List.getElem?_eq_getElem hkn]; rfl
    have hww := orF_words (rs.take k) [] (by simp [Words]) fun x hx => hw x (List.mem_of_mem_take hx)
    have hbw := hw _ hbm
    have hal : ((rs.take k).foldl orP []).length ≤ 1048576 := by
      rw [orF_length]
      exact maxL_le _ _ _ (by simp) fun x hx => hl x (List.mem_of_mem_take hx)
    rw [hfold, ← mix_or]
    generalize (rs.take k).foldl orP [] = a at *
    generalize rs.getD k [] = b at *
    simp (disch := first | omega | (simp only [List.length_append, List.length_cons, List.length_nil]; omega)) only [c35r0, c35r1, c35r2, c35r3, c35r4, c35r5, c35r6, c35l7, c35r8, c35r9, c35r10, c35r11, c35r12, c35l13, c35r14, c35l15, c35r16, hkn', f1, f2, f4, go_sem, ↓reduceIte, reduceCtorEq, Nat.reduceAdd, Nat.reduceSub, Nat.reducePow, Nat.reduceMul, Nat.reduceEqDiff, Nat.reduceLT, Nat.reduceLeDiff, Int.reduceToNat, Int.reduceLT, Int.reduceLE, Int.reduceEq, Int.reduceNeg, Int.reduceAdd, Int.reduceSub, Int.reduceMul]
    refine loop_to (b.length - a.length) (fun i st => ∃ (d : D) (H : Heap), AppSt h (u64s (a ++ List.replicate i 0)) (a.length + i) d H ∧ ∃ (j : Nat → D), st = ⟨(j 0 :: j 1 :: j 2 :: d :: j 4 :: e0 :: j 6 :: j 7 :: rows :: .int .i64 (rs.length : Int) :: .int .i64 (k : Int) :: j 11 :: j 12 :: j 13 :: j 14 :: j 15 :: j 16 :: j 17 :: j 18 :: j 19 :: j 20 :: j 21 :: j 22 :: j 23 :: j 24 :: j 25 :: j 26 :: j 27 :: j 28 :: j 29 :: j 30 :: j 31 :: j 32 :: j 33 :: j 34 :: j 35 :: j 36 :: j 37 :: j 38 :: []), h ++ H⟩) ⟨d, H, by simpa using ha, junk rfl⟩ ?_
    rintro i st hi ⟨d, H, ha, j, rfl⟩
    have s1 := ha.sl (by rw [u64s_length, List.length_append, List.length_replicate])
    have s2 := h40.low H
    by_cases hib : a.length + i < b.length
    · have hib' : ((a.length + i : Nat) : Int) < b.length := by omega
      obtain ⟨H', q1, q2⟩ := ha.app (.int .u64 0) (by omega) 8 (by omega)
      simp (disch := first | omega | (simp only [List.length_append, List.length_cons, List.length_nil]; omega)) only [c35r0, c35r1, c35r2, c35r3, c35r4, c35r5, c35r6, c35l7, c35r8, c35r9, c35r10, c35r11, c35r12, c35l13, c35r14, c35l15, c35r16, s1.lend, s1.sort, s2.lend, s2.sort, hib', List.append_assoc, q1, go_sem, ↓reduceIte, reduceCtorEq, Nat.reduceAdd, Nat.reduceSub, Nat.reducePow, Nat.reduceMul, Nat.reduceEqDiff, Nat.reduceLT, Nat.reduceLeDiff, Int.reduceToNat, Int.reduceLT, Int.reduceLE, Int.reduceEq, Int.reduceNeg, Int.reduceAdd, Int.reduceSub, Int.reduceMul]
      refine ⟨by omega, _, H', ?_, junk rfl⟩
      rw [List.replicate_succ', ← List.append_assoc, u64s_zero]
      exact q2
    · have hib' : ¬ ((a.length + i : Nat) : Int) < b.length := by omega
      have : i = b.length - a.length := by omega
      subst this
      simp (disch := first | omega | (simp only [List.length_append, List.length_cons, List.length_nil]; omega)) only [c35r0, c35r1, c35r2, c35r3, c35r4, c35r5, c35r6, c35l7, c35r8, c35r9, c35r10, c35r11, c35r12, c35l13, c35r14, c35l15, c35r16, s1.lend, s1.sort, s2.lend, s2.sort, hib', go_sem, ↓reduceIte, reduceCtorEq, Nat.reduceAdd, Nat.reduceSub, Nat.reducePow, Nat.reduceMul, Nat.reduceEqDiff, Nat.reduceLT, Nat.reduceLeDiff, Int.reduceToNat, Int.reduceLT, Int.reduceLE, Int.reduceEq, Int.reduceNeg, Int.reduceAdd, Int.reduceSub, Int.reduceMul]
      have hwa : Words (a ++ List.replicate (b.length - a.length) 0) := by
        intro w hw
        rcases List.mem_append.1 hw with hw | hw
        · exact hww w hw
        · rw [(List.mem_replicate.1 hw).2]; omega
      have hal2 : (a ++ List.replicate (b.length - a.length) 0).length = a.length + (b.length - a.length) := by simp
      rw [← hal2] at ha
      generalize a ++ List.replicate (b.length - a.length) 0 = a2 at *
      refine loop_to b.length (fun i st => ∃ (H : Heap), AppSt h (u64s (mixTo (· ||| ·) a2 b i)) (mixTo (· ||| ·) a2 b i).length d H ∧ ∃ (j : Nat → D), st = ⟨(j 0 :: j 1 :: j 2 :: d :: j 4 :: j 5 :: j 6 :: j 7 :: rows :: .int .i64 (rs.length : Int) :: .int .i64 (k : Int) :: j 11 :: j 12 :: j 13 :: j 14 :: j 15 :: j 16 :: j 17 :: j 18 :: j 19 :: j 20 :: j 21 :: e0 :: .int .i64 (b.length : Int) :: .int .i64 (i : Int) :: j 25 :: j 26 :: j 27 :: j 28 :: j 29 :: j 30 :: j 31 :: j 32 :: j 33 :: j 34 :: j 35 :: j 36 :: j 37 :: j 38 :: []), h ++ H⟩) ⟨H, by rw [mixTo_zero]; exact ha, junk rfl⟩ ?_
      rintro i st hi ⟨H, hi2, j, rfl⟩
      by_cases him : i < b.length
      · have him' : (i : Int) < b.length := by omega
        have hl2 := mixTo_length (· ||| ·) a2 b i
        obtain ⟨p4, cs4, w1, w2, w3, w4⟩ := hi2.at (i := i) (by omega)
        obtain ⟨H', w5, w6⟩ := w4 (a2.getD i 0 ||| b.getD i 0)
        rw [mixTo_set _ _ _ _ (by omega)] at w6
        rw [mixTo_getD _ _ _ _ _ (by omega), if_neg (by omega)] at w3
        have s5 := h40.low H
        obtain ⟨p5, cs5, v1, v2, v3⟩ := s5.elem (k := .i64) (i := (i : Int)) (by omega) (by omega)
        have v4 := v3 0 (by omega)
        rw [show ((i : Int).toNat * 1 + 0) = i by omega, u64s_get (by omega)] at v4
        have a1 := or_u64 (hwa.getD i) (hbw.getD i)
        have e5 : IntKind.i64.wrap ((i : Int) + 1) = ((i + 1 : Nat) : Int) := by rw [w_i64 (by omega) (by omega)]; omega
        simp (disch := first | omega | (simp only [List.length_append, List.length_cons, List.length_nil]; omega)) only [c35r0, c35r1, c35r2, c35r3, c35r4, c35r5, c35r6, c35l7, c35r8, c35r9, c35r10, c35r11, c35r12, c35l13, c35r14, c35l15, c35r16, him', w1, w2, w3, v1, v2, v4, a1, w5, e5, go_sem, ↓reduceIte, reduceCtorEq, Nat.reduceAdd, Nat.reduceSub, Nat.reducePow, Nat.reduceMul, Nat.reduceEqDiff, Nat.reduceLT, Nat.reduceLeDiff, Int.reduceToNat, Int.reduceLT, Int.reduceLE, Int.reduceEq, Int.reduceNeg, Int.reduceAdd, Int.reduceSub, Int.reduceMul]
        exact ⟨him, H', w6, junk rfl⟩
      · have him' : ¬ (i : Int) < b.length := by omega
        have : i = b.length := by omega
        subst this
        have e5 : IntKind.i64.wrap ((k : Int) + 1) = ((k + 1 : Nat) : Int) := by rw [w_i64 (by omega) (by omega)]; omega
        simp (disch := first | omega | (simp only [List.length_append, List.length_cons, List.length_nil]; omega)) only [c35r0, c35r1, c35r2, c35r3, c35r4, c35r5, c35r6, c35l7, c35r8, c35r9, c35r10, c35r11, c35r12, c35l13, c35r14, c35l15, c35r16, him', e5, go_sem, ↓reduceIte, reduceCtorEq, Nat.reduceAdd, Nat.reduceSub, Nat.reducePow, Nat.reduceMul, Nat.reduceEqDiff, Nat.reduceLT, Nat.reduceLeDiff, Int.reduceToNat, Int.reduceLT, Int.reduceLE, Int.reduceEq, Int.reduceNeg, Int.reduceAdd, Int.reduceSub, Int.reduceMul]
        exact ⟨hkn, d, H, hi2, junk rfl⟩
  · have hkn' : ¬ (k : Int) < rs.length := by omega
    have : k = rs.length := by omega
    subst this
    simp (disch := first | omega | (simp only [List.length_append, List.length_cons, List.length_nil]; omega)) only [c35r0, c35r1, c35r2, c35r3, c35r4, c35r5, c35r6, c35l7, c35r8, c35r9, c35r10, c35r11, c35r12, c35l13, c35r14, c35l15, c35r16, hkn', go_sem, ↓reduceIte, reduceCtorEq, Nat.reduceAdd, Nat.reduceSub, Nat.reducePow, Nat.reduceMul, Nat.reduceEqDiff, Nat.reduceLT, Nat.reduceLeDiff, Int.reduceToNat, Int.reduceLT, Int.reduceLE, Int.reduceEq, Int.reduceNeg, Int.reduceAdd, Int.reduceSub, Int.reduceMul]
    rw [List.take_length] at ha
    exact ha.fin fun k => under_u64s k _
end Go.Proofs
