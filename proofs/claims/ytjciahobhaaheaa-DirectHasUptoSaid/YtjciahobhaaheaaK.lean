/-
  Own work. The laws BitrowSets and BitrowJoins.
-/
import Derived.Test.YtjciahobhaaheaaJ
namespace Go.Proofs
open Go Go.Ytjciahobhaaheaa
set_option linter.unusedVariables false
set_option linter.unusedSimpArgs false
set_option maxRecDepth 10000

/-! ### weighbridge/weighbridgelaw18.BitrowSets, params 3 -/
def c5r0 : List AStm := [.op (some 6) none (.mv (.c (.bool false)))]
def c5r1 : List AStm := [.op (some 8) none (.mv (.t 1)),
    .op (some 9) none (.len false (.t 8)),
    .op (some 10) none (.bin .gtr (.t 9) (.c (.int .i64 200)))]
def c5r2 : List AStm := [.call (some 11) none (.c (.fn (.func 19) [] [])) [],
    .op (some 6) none (.mv (.t 11))]
def c5r3 : List AStm := [.op (some 12) none (.mv (.t 1)),
    .op (some 13) none (.mv (.t 2)),
    .call (some 14) none (.c (.fn (.func 20) [] [])) [(.t 12), (.t 13)],
    .op (some 7) none (.mv (.t 14))]
def c5r4 : List AStm := [.call (some 15) none (.c (.fn (.func 19) [] [])) [],
    .op (some 16) none (.mv (.t 15)),
    .op (some 17) (some (16, true)) (.mv (.t 0)),
    .call (some 18) (some (16, true)) (.c (.fn (.func 21) [] [])) [(.t 17)],
    .op (some 19) (some (16, true)) (.mv (.t 0)),
    .call (some 20) (some (16, true)) (.c (.fn (.func 22) [] [])) [(.t 19)],
    .call (some 21) (some (16, true)) (.c (.fn (.func 12) [] [])) [(.t 18), (.t 20)],
    .op (some 22) none (.pick (.t 16) (.t 21) (.c (.bool false))),
    .op (some 23) none (.mv (.t 22)),
    .op (some 24) (some (23, true)) (.mv (.t 0)),
    .call (some 25) (some (23, true)) (.c (.fn (.func 23) [] [])) [(.t 24)],
    .op (some 26) (some (23, true)) (.mv (.t 0)),
    .call (some 27) (some (23, true)) (.c (.fn (.func 24) [] [])) [(.t 26)],
    .call (some 28) (some (23, true)) (.c (.fn (.func 12) [] [])) [(.t 25), (.t 27)],
    .op (some 29) none (.pick (.t 23) (.t 28) (.c (.bool false))),
    .op (some 30) none (.mv (.t 29)),
    .op (some 31) (some (30, true)) (.mv (.t 7)),
    .op (some 32) (some (30, true)) (.mv (.t 1)),
    .op (some 33) (some (30, true)) (.mv (.t 2)),
    .call (some 34) (some (30, true)) (.c (.fn (.func 25) [] [])) [(.t 32), (.t 33)],
    .call (some 35) (some (30, true)) (.c (.fn (.func 12) [] [])) [(.t 31), (.t 34)],
    .op (some 36) none (.pick (.t 30) (.t 35) (.c (.bool false))),
    .op (some 37) none (.mv (.t 36)),
    .op (some 38) (some (37, true)) (.mv (.t 1)),
    .op (some 39) (some (37, true)) (.mv (.t 2)),
    .call (some 40) (some (37, true)) (.c (.fn (.func 18) [] [])) [(.t 38), (.t 39)],
    .op (some 41) (some (37, true)) (.mv (.t 1)),
    .op (some 42) (some (37, true)) (.mv (.t 2)),
    .call (some 43) (some (37, true)) (.c (.fn (.func 26) [] [])) [(.t 41), (.t 42)],
    .op (some 44) (some (37, true)) (.eqb false (.t 40) (.t 43)),
    .op (some 45) none (.pick (.t 37) (.t 44) (.c (.bool false))),
    .op (some 46) none (.mv (.t 45)),
    .op (some 47) (some (46, true)) (.mv (.t 1)),
    .call (some 48) (some (46, true)) (.c (.fn (.func 27) [] [])) [(.t 47)],
    .op (some 49) (some (46, true)) (.mv (.t 1)),
    .call (some 50) (some (46, true)) (.c (.fn (.func 28) [] [])) [(.t 49)],
    .op (some 51) (some (46, true)) (.bin .eql (.t 48) (.t 50)),
    .op (some 52) none (.pick (.t 46) (.t 51) (.c (.bool false))),
    .op (some 53) none (.mv (.t 52)),
    .op (some 54) (some (53, true)) (.mv (.t 1)),
    .call (some 55) (some (53, true)) (.c (.fn (.func 30) [] [])) [(.t 54)],
    .op (some 56) (some (53, true)) (.mv (.t 1)),
    .call (some 57) (some (53, true)) (.c (.fn (.func 31) [] [])) [(.t 56)],
    .call (some 58) (some (53, true)) (.c (.fn (.func 29) [] [])) [(.t 55), (.t 57)],
    .op (some 59) none (.pick (.t 53) (.t 58) (.c (.bool false))),
    .op (some 60) none (.mv (.t 59)),
    .op (some 61) (some (60, true)) (.mv (.t 1)),
    .call (some 62) (some (60, true)) (.c (.fn (.func 32) [] [])) [(.t 61)],
    .op (some 63) (some (60, true)) (.mv (.t 1)),
    .call (some 64) (some (60, true)) (.c (.fn (.func 31) [] [])) [(.t 63)],
    .op (some 65) (some (60, true)) (.len false (.t 64)),
    .op (some 66) (some (60, true)) (.bin .eql (.t 62) (.t 65)),
    .op (some 67) none (.pick (.t 60) (.t 66) (.c (.bool false))),
    .op (some 6) none (.mv (.t 67))]
def c5 : CF := ⟨.seq (.reg c5r0) (.seq (.seq (.reg c5r1) (.cond (.t 10) (.seq (.reg c5r2) (.ret)) (.skip))) (.seq (.reg c5r3) (.seq (.reg c5r4) (.ret)))), [.tmp 6], 68⟩
theorem cf5 : cfun Try.prog 5 = some c5 := by kernel_rfl

/-! ### weighbridge/weighbridgelaw18.BitrowJoins, params 1 -/
def c6r0 : List AStm := [.op (some 2) none (.mv (.c (.bool false)))]
def c6r1 : List AStm := [.op (some 4) none (.mv (.t 0)),
    .op (some 5) none (.len false (.t 4)),
    .op (some 6) none (.bin .gtr (.t 5) (.c (.int .i64 20)))]
def c6r2 : List AStm := [.call (some 7) none (.c (.fn (.func 19) [] [])) [],
    .op (some 2) none (.mv (.t 7))]
def c6r3 : List AStm := [.op (some 3) none (.mv (.c (.int .i64 0)))]
def c6r4 : List AStm := [.op (some 8) none (.mv (.t 3)),
    .op (some 9) none (.mv (.t 0)),
    .op (some 10) none (.len false (.t 9)),
    .op (some 11) none (.bin .lss (.t 8) (.t 10))]
def c6r5 : List AStm := [.op (some 14) none (.mv (.t 0)),
    .op (some 15) none (.mv (.t 3)),
    .op (some 16) none (.ixs 1 (.t 14) (.t 15)),
    .op (some 17) none (.load none (.t 16)),
    .op (some 18) none (.len false (.t 17)),
    .op (some 19) none (.bin .gtr (.t 18) (.c (.int .i64 20)))]
def c6r6 : List AStm := [.call (some 20) none (.c (.fn (.func 19) [] [])) [],
    .op (some 2) none (.mv (.t 20))]
def c6r7 : List AStm := [.op (some 12) none (.mv (.t 3)),
    .op (some 13) none (.bin .add (.t 12) (.c (.int .i64 1))),
    .op (some 3) none (.mv (.t 13))]
def c6l8 : AC := .seq (.seq (.reg c6r4) (.cond (.t 11) (.skip) (.exit 0))) (.seq (.block 1 (.seq (.reg c6r5) (.cond (.t 19) (.seq (.reg c6r6) (.ret)) (.skip)))) (.reg c6r7))
def c6r9 : List AStm := [.call (some 21) none (.c (.fn (.func 19) [] [])) [],
    .op (some 22) none (.mv (.t 21)),
    .op (some 23) (some (22, true)) (.mv (.t 0)),
    .call (some 24) (some (22, true)) (.c (.fn (.func 33) [] [])) [(.t 23)],
    .op (some 25) (some (22, true)) (.mv (.t 0)),
    .call (some 26) (some (22, true)) (.c (.fn (.func 34) [] [])) [(.t 25)],
    .call (some 27) (some (22, true)) (.c (.fn (.func 12) [] [])) [(.t 24), (.t 26)],
    .op (some 28) none (.pick (.t 22) (.t 27) (.c (.bool false))),
    .op (some 29) none (.mv (.t 28)),
    .op (some 30) (some (29, true)) (.mv (.t 0)),
    .call (some 31) (some (29, true)) (.c (.fn (.func 35) [] [])) [(.t 30)],
    .op (some 32) (some (29, true)) (.mv (.t 0)),
    .call (some 33) (some (29, true)) (.c (.fn (.func 36) [] [])) [(.t 32)],
    .call (some 34) (some (29, true)) (.c (.fn (.func 12) [] [])) [(.t 31), (.t 33)],
    .op (some 35) none (.pick (.t 29) (.t 34) (.c (.bool false))),
    .op (some 2) none (.mv (.t 35))]
def c6 : CF := ⟨.seq (.reg c6r0) (.seq (.seq (.reg c6r1) (.cond (.t 6) (.seq (.reg c6r2) (.ret)) (.skip))) (.seq (.seq (.reg c6r3) (.block 0 (.loop c6l8))) (.seq (.reg c6r9) (.ret)))), [.tmp 2], 36⟩
theorem cf6 : cfun Try.prog 6 = some c6 := by kernel_rfl



/-! ### Openers -/
theorem u64_nats : ∀ {zs : List Int}, (∀ z ∈ zs, (Sh.int .u64).ok z) → ∃ ws : List Nat, Words ws ∧ zs.map (D.int .u64) = u64s ws ∧ ws.length = zs.length
  | [], _ => ⟨[], by simp [Words], rfl, rfl⟩
  | z :: zs, h => by
    obtain ⟨ws, h1, h2, h3⟩ := u64_nats (zs := zs) fun y hy => h y (by simp [hy])
    obtain ⟨n, rfl, hn⟩ := ok_u64 (h z (by simp))
    refine ⟨n :: ws, ?_, ?_, by simp [h3]⟩
    · intro w hw
      rcases List.mem_cons.1 hw with rfl | hw
      · exact hn
      · exact h1 w hw
    · rw [List.map_cons, h2]; rfl
theorem sumBy_ge {α : Type} {f : α → Nat} (hf : ∀ x, 1 ≤ f x) : ∀ l : List α, l.length ≤ sumBy f l
  | [] => by simp [sumBy]
  | x :: l => by
    have := sumBy_ge hf l
    have := hf x
    simp only [sumBy, List.length_cons]; omega
theorem sumBy_mem {α : Type} {f : α → Nat} : ∀ {l : List α} {x : α}, x ∈ l → f x ≤ sumBy f l
  | y :: l, x, h => by
    rcases List.mem_cons.1 h with rfl | h
    · simp only [sumBy]; omega
    · have := sumBy_mem (f := f) h
      simp only [sumBy]; omega
theorem row_open {x : (Sh.sl (.int .u64)).T} {d : D} (ok : (Sh.sl (.int .u64)).ok x) (en : (Sh.sl (.int .u64)).EncV x d) :
    ∃ ws : List Nat, Words ws ∧ ws.length = (x : List Int).length ∧ ws.length + 1 ≤ (Sh.sl (.int .u64)).vol x ∧ ∀ h, RowOf h d ws := by
  obtain ⟨ws, h1, h2, h3⟩ := u64_nats (zs := (x : List Int)) ok
  refine ⟨ws, h1, h3, ?_, fun h => ?_⟩
  · have := sumBy_ge (f := (Sh.int .u64).vol) (fun _ => Nat.le_refl _) (x : List Int)
    simp only [Sh.vol]
    simp only [Sh.vol] at this
    omega
  · have := (sl_ints en h).1
    rw [h2] at this
    unfold RowOf
    rw [h3]
    exact this
theorem rows_enc : ∀ {xs : List (List Int)} {es : List D}, (∀ x ∈ xs, (Sh.sl (.int .u64)).ok x) → EncL (Sh.sl (.int .u64)).Enc xs es →
    ∃ rs : List (List Nat), rs.length = xs.length ∧ es.length = xs.length ∧ (∀ r ∈ rs, Words r) ∧ (∀ r ∈ rs, r.length + 1 ≤ sumBy (Sh.sl (.int .u64)).vol xs) ∧ ∀ h k, k < rs.length → ∃ e, es[k]? = some e ∧ RowOf h e (rs.getD k [])
  | [], es, _, h => by
    simp only [EncL] at h
    subst h
    exact ⟨[], rfl, rfl, by simp, by simp, fun h k hk => by simp at hk⟩
  | x :: xs, es, ok, h => by
    obtain ⟨a, b, h1, h2, rfl⟩ := h
    obtain ⟨rs, q1, q2, q3, q4, q5⟩ := rows_enc (fun y hy => ok y (by simp [hy])) h2
    have hd : ∃ d, a = [d] ∧ (Sh.sl (.int .u64)).EncV x d := by
      have h1' := h1
      simp only [Sh.Enc] at h1
      rcases h1 with ⟨_, rfl⟩ | ⟨_, _, rfl⟩
      · exact ⟨_, rfl, h1'⟩
      · exact ⟨_, rfl, h1'⟩
    obtain ⟨d, rfl, en⟩ := hd
    obtain ⟨ws, w1, w2, w3, w4⟩ := row_open (ok x (by simp)) en
    refine ⟨ws :: rs, by simp [q1], by simp [q2], ?_, ?_, ?_⟩
    · intro r hr
      rcases List.mem_cons.1 hr with rfl | hr
      · exact w1
      · exact q3 r hr
    · intro r hr
      simp only [sumBy]
      rcases List.mem_cons.1 hr with rfl | hr
      · omega
      · have := q4 r hr; omega
    · intro h k hk
      match k with
      | 0 => exact ⟨d, rfl, w4 h⟩
      | k + 1 =>
        obtain ⟨e, e1, e2⟩ := q5 h k (by simpa using hk)
        exact ⟨e, by simpa using e1, e2⟩
theorem rows_open {x : (Sh.sl (.sl (.int .u64))).T} {d : D} (ok : (Sh.sl (.sl (.int .u64))).ok x) (en : (Sh.sl (.sl (.int .u64))).EncV x d) :
    ∃ rs : List (List Nat), (∀ r ∈ rs, Words r) ∧ rs.length + 1 ≤ (Sh.sl (.sl (.int .u64))).vol x ∧ (∀ r ∈ rs, r.length + 1 ≤ (Sh.sl (.sl (.int .u64))).vol x) ∧ ∀ h, RowsOf h d rs := by
  simp only [Sh.EncV, Sh.Enc] at en
  rcases en with ⟨rfl, h1⟩ | ⟨es, h1, h2⟩
  · simp only [List.cons.injEq, and_true] at h1
    subst h1
    exact ⟨[], by simp, by simp [Sh.vol], by simp, fun h => ⟨[], nils_of h 1, fun k hk => by simp at hk⟩⟩
  · simp only [List.cons.injEq, and_true] at h2
    subst h2
    obtain ⟨rs, q1, q2, q3, q4, q5⟩ := rows_enc ok h1
    refine ⟨rs, q3, ?_, ?_, fun h => ⟨es, ?_, q5 h⟩⟩
    · have := sumBy_ge (f := (Sh.sl (.int .u64)).vol) (fun _ => by simp only [Sh.vol]; omega) (x : List (List Int))
      have e : (Sh.sl (.sl (.int .u64))).vol x = sumBy (Sh.sl (.int .u64)).vol x + 1 := rfl
      rw [e]; omega
    · intro r hr
      have := q4 r hr
      have e : (Sh.sl (.sl (.int .u64))).vol x = sumBy (Sh.sl (.int .u64)).vol x + 1 := rfl
      rw [e]; omega
    · rw [q1]
      exact sl_of h 1 es _ _ (by rw [q2]; omega)

theorem sets_fc (h : Heap) (n : Int) (row : D) (ws : List Nat) (i : Int) (s : RowOf h row ws) (hlen : ws.length ≤ 1048576) (hw : Words ws)
    (h0 : -9223372036854775808 ≤ n) (h1 : n < 9223372036854775808) (h2 : -9223372036854775808 ≤ i) (h3 : i < 9223372036854775808) :
    FC Try.prog 5 [.int .i64 n, row, .int .i64 i] h fun d h' => d = .bool true ∧ h' = h := by
  have k1 := SlOf.lend s
  have k2 := SlOf.sort s
  refine FC.goes cf5 ?_; simp only [c5]; simp only [List.length_cons, List.length_nil, Nat.reduceAdd, Nat.reduceSub, List.replicate_succ, List.replicate_zero, List.cons_append, List.nil_append]
  by_cases hgt : (200 : Int) < ws.length
  · simp (disch := first | omega | (simp only [List.length_append, List.length_cons, List.length_nil]; omega)) only [c5r0, c5r1, c5r2, c5r3, c5r4, k1, k2, hgt, go_sem, ↓reduceIte, reduceCtorEq, Nat.reduceAdd, Nat.reduceSub, Nat.reducePow, Nat.reduceMul, Nat.reduceEqDiff, Nat.reduceLT, Nat.reduceLeDiff, Int.reduceToNat, Int.reduceLT, Int.reduceLE, Int.reduceEq, Int.reduceNeg, Int.reduceAdd, Int.reduceSub, Int.reduceMul]
    refine gfc_of (live18 _) ?_
    rintro d h' ⟨rfl, e⟩
    rw [e]
    simp (disch := first | omega | (simp only [List.length_append, List.length_cons, List.length_nil]; omega)) only [go_sem, ↓reduceIte, reduceCtorEq, Nat.reduceAdd, Nat.reduceSub, Nat.reducePow, Nat.reduceMul, Nat.reduceEqDiff, Nat.reduceLT, Nat.reduceLeDiff, Int.reduceToNat, Int.reduceLT, Int.reduceLE, Int.reduceEq, Int.reduceNeg, Int.reduceAdd, Int.reduceSub, Int.reduceMul]
    exact FinOk.all ⟨rfl, rfl⟩
  · have hle : (onesL ws).length ≤ 1073741824 := by
      have := onesTo_le ws (64 * ws.length)
      have e : onesL ws = onesTo ws (64 * ws.length) := rfl
      rw [e]; omega
    have hsl := setR_length ws i
    have hnl := newR_len n
    have hal := allR_length n
    simp (disch := first | omega | (simp only [List.length_append, List.length_cons, List.length_nil]; omega)) only [c5r0, c5r1, c5r2, c5r3, c5r4, k1, k2, hgt, go_sem, ↓reduceIte, reduceCtorEq, Nat.reduceAdd, Nat.reduceSub, Nat.reducePow, Nat.reduceMul, Nat.reduceEqDiff, Nat.reduceLT, Nat.reduceLeDiff, Int.reduceToNat, Int.reduceLT, Int.reduceLE, Int.reduceEq, Int.reduceNeg, Int.reduceAdd, Int.reduceSub, Int.reduceMul]
    refine gfc_of (set_md _ row ws s hlen hw i h2 h3) ?_
    rintro xa h4 ⟨E4, sa⟩
    have s := s.ext E4
    simp (disch := first | omega | (simp only [List.length_append, List.length_cons, List.length_nil]; omega)) only [go_sem, ↓reduceIte, reduceCtorEq, Nat.reduceAdd, Nat.reduceSub, Nat.reducePow, Nat.reduceMul, Nat.reduceEqDiff, Nat.reduceLT, Nat.reduceLeDiff, Int.reduceToNat, Int.reduceLT, Int.reduceLE, Int.reduceEq, Int.reduceNeg, Int.reduceAdd, Int.reduceSub, Int.reduceMul]
    refine gfc_of (live18 _) ?_
    rintro d h' ⟨rfl, e⟩
    rw [e]
    simp (disch := first | omega | (simp only [List.length_append, List.length_cons, List.length_nil]; omega)) only [go_sem, ↓reduceIte, reduceCtorEq, Nat.reduceAdd, Nat.reduceSub, Nat.reducePow, Nat.reduceMul, Nat.reduceEqDiff, Nat.reduceLT, Nat.reduceLeDiff, Int.reduceToNat, Int.reduceLT, Int.reduceLE, Int.reduceEq, Int.reduceNeg, Int.reduceAdd, Int.reduceSub, Int.reduceMul]
    refine gfc_of (new_md _ n h0 h1) ?_
    rintro x5 h5 ⟨E5, s5⟩
    simp (disch := first | omega | (simp only [List.length_append, List.length_cons, List.length_nil]; omega)) only [go_sem, ↓reduceIte, reduceCtorEq, Nat.reduceAdd, Nat.reduceSub, Nat.reducePow, Nat.reduceMul, Nat.reduceEqDiff, Nat.reduceLT, Nat.reduceLeDiff, Int.reduceToNat, Int.reduceLT, Int.reduceLE, Int.reduceEq, Int.reduceNeg, Int.reduceAdd, Int.reduceSub, Int.reduceMul]
    refine gfc_of (newRef_md _ n h0 h1) ?_
    rintro x6 h6 ⟨E6, s6⟩
    simp (disch := first | omega | (simp only [List.length_append, List.length_cons, List.length_nil]; omega)) only [go_sem, ↓reduceIte, reduceCtorEq, Nat.reduceAdd, Nat.reduceSub, Nat.reducePow, Nat.reduceMul, Nat.reduceEqDiff, Nat.reduceLT, Nat.reduceLeDiff, Int.reduceToNat, Int.reduceLT, Int.reduceLE, Int.reduceEq, Int.reduceNeg, Int.reduceAdd, Int.reduceSub, Int.reduceMul]
    refine gfc_of (same_fc _ x5 x6 _ _ (s5.ext E6) s6 (by omega) (by omega)) ?_
    rintro d h' ⟨rfl, e⟩
    rw [e]
    have F6 : Ext h4 h6 := E5.trans E6
    have s := s.ext F6
    have sa := sa.ext F6
    simp (disch := first | omega | (simp only [List.length_append, List.length_cons, List.length_nil]; omega)) only [go_sem, ↓reduceIte, reduceCtorEq, Nat.reduceAdd, Nat.reduceSub, Nat.reducePow, Nat.reduceMul, Nat.reduceEqDiff, Nat.reduceLT, Nat.reduceLeDiff, Int.reduceToNat, Int.reduceLT, Int.reduceLE, Int.reduceEq, Int.reduceNeg, Int.reduceAdd, Int.reduceSub, Int.reduceMul]
    refine gfc_of (all_md _ n h0 h1) ?_
    rintro x5 h7 ⟨E7, s5⟩
    simp (disch := first | omega | (simp only [List.length_append, List.length_cons, List.length_nil]; omega)) only [go_sem, ↓reduceIte, reduceCtorEq, Nat.reduceAdd, Nat.reduceSub, Nat.reducePow, Nat.reduceMul, Nat.reduceEqDiff, Nat.reduceLT, Nat.reduceLeDiff, Int.reduceToNat, Int.reduceLT, Int.reduceLE, Int.reduceEq, Int.reduceNeg, Int.reduceAdd, Int.reduceSub, Int.reduceMul]
    refine gfc_of (allRef_md _ n h0 h1) ?_
    rintro x6 h8 ⟨E8, s6⟩
    simp (disch := first | omega | (simp only [List.length_append, List.length_cons, List.length_nil]; omega)) only [go_sem, ↓reduceIte, reduceCtorEq, Nat.reduceAdd, Nat.reduceSub, Nat.reducePow, Nat.reduceMul, Nat.reduceEqDiff, Nat.reduceLT, Nat.reduceLeDiff, Int.reduceToNat, Int.reduceLT, Int.reduceLE, Int.reduceEq, Int.reduceNeg, Int.reduceAdd, Int.reduceSub, Int.reduceMul]
    refine gfc_of (same_fc _ x5 x6 _ _ (s5.ext E8) s6 (by omega) (by omega)) ?_
    rintro d h' ⟨rfl, e⟩
    rw [e]
    have F8 : Ext h6 h8 := E7.trans E8
    have s := s.ext F8
    have sa := sa.ext F8
    simp (disch := first | omega | (simp only [List.length_append, List.length_cons, List.length_nil]; omega)) only [go_sem, ↓reduceIte, reduceCtorEq, Nat.reduceAdd, Nat.reduceSub, Nat.reducePow, Nat.reduceMul, Nat.reduceEqDiff, Nat.reduceLT, Nat.reduceLeDiff, Int.reduceToNat, Int.reduceLT, Int.reduceLE, Int.reduceEq, Int.reduceNeg, Int.reduceAdd, Int.reduceSub, Int.reduceMul]
    refine gfc_of (setRef_md _ row ws s hlen hw i h2 h3) ?_
    rintro x6 h9 ⟨E9, s6⟩
    simp (disch := first | omega | (simp only [List.length_append, List.length_cons, List.length_nil]; omega)) only [go_sem, ↓reduceIte, reduceCtorEq, Nat.reduceAdd, Nat.reduceSub, Nat.reducePow, Nat.reduceMul, Nat.reduceEqDiff, Nat.reduceLT, Nat.reduceLeDiff, Int.reduceToNat, Int.reduceLT, Int.reduceLE, Int.reduceEq, Int.reduceNeg, Int.reduceAdd, Int.reduceSub, Int.reduceMul]
    refine gfc_of (same_fc _ xa x6 _ _ (sa.ext E9) s6 (by omega) (by omega)) ?_
    rintro d h' ⟨rfl, e⟩
    rw [e]
    have s := s.ext E9
    simp (disch := first | omega | (simp only [List.length_append, List.length_cons, List.length_nil]; omega)) only [go_sem, ↓reduceIte, reduceCtorEq, Nat.reduceAdd, Nat.reduceSub, Nat.reducePow, Nat.reduceMul, Nat.reduceEqDiff, Nat.reduceLT, Nat.reduceLeDiff, Int.reduceToNat, Int.reduceLT, Int.reduceLE, Int.reduceEq, Int.reduceNeg, Int.reduceAdd, Int.reduceSub, Int.reduceMul]
    refine gfc_of (has_fc _ row ws s hw i h2 h3) ?_
    rintro d h' ⟨rfl, e⟩
    rw [e]
    simp (disch := first | omega | (simp only [List.length_append, List.length_cons, List.length_nil]; omega)) only [go_sem, ↓reduceIte, reduceCtorEq, Nat.reduceAdd, Nat.reduceSub, Nat.reducePow, Nat.reduceMul, Nat.reduceEqDiff, Nat.reduceLT, Nat.reduceLeDiff, Int.reduceToNat, Int.reduceLT, Int.reduceLE, Int.reduceEq, Int.reduceNeg, Int.reduceAdd, Int.reduceSub, Int.reduceMul]
    refine gfc_of (hasRef_fc _ row ws s hlen hw i h2 h3) ?_
    rintro d h' ⟨rfl, e⟩
    rw [e]
    simp (disch := first | omega | (simp only [List.length_append, List.length_cons, List.length_nil]; omega)) only [go_sem, ↓reduceIte, reduceCtorEq, Nat.reduceAdd, Nat.reduceSub, Nat.reducePow, Nat.reduceMul, Nat.reduceEqDiff, Nat.reduceLT, Nat.reduceLeDiff, Int.reduceToNat, Int.reduceLT, Int.reduceLE, Int.reduceEq, Int.reduceNeg, Int.reduceAdd, Int.reduceSub, Int.reduceMul]
    refine gfc_of (first_fc _ row ws s hlen hw) ?_
    rintro d h' ⟨rfl, e⟩
    rw [e]
    simp (disch := first | omega | (simp only [List.length_append, List.length_cons, List.length_nil]; omega)) only [go_sem, ↓reduceIte, reduceCtorEq, Nat.reduceAdd, Nat.reduceSub, Nat.reducePow, Nat.reduceMul, Nat.reduceEqDiff, Nat.reduceLT, Nat.reduceLeDiff, Int.reduceToNat, Int.reduceLT, Int.reduceLE, Int.reduceEq, Int.reduceNeg, Int.reduceAdd, Int.reduceSub, Int.reduceMul]
    refine gfc_of (firstRef_fc _ row ws s hlen hw) ?_
    rintro d h' ⟨rfl, e⟩
    rw [e]
    simp (disch := first | omega | (simp only [List.length_append, List.length_cons, List.length_nil]; omega)) only [go_sem, ↓reduceIte, reduceCtorEq, Nat.reduceAdd, Nat.reduceSub, Nat.reducePow, Nat.reduceMul, Nat.reduceEqDiff, Nat.reduceLT, Nat.reduceLeDiff, Int.reduceToNat, Int.reduceLT, Int.reduceLE, Int.reduceEq, Int.reduceNeg, Int.reduceAdd, Int.reduceSub, Int.reduceMul]
    refine gfc_of (list_md _ row ws s hlen hw) ?_
    rintro x10 h10 ⟨E10, s10⟩
    have s := s.ext E10
    simp (disch := first | omega | (simp only [List.length_append, List.length_cons, List.length_nil]; omega)) only [go_sem, ↓reduceIte, reduceCtorEq, Nat.reduceAdd, Nat.reduceSub, Nat.reducePow, Nat.reduceMul, Nat.reduceEqDiff, Nat.reduceLT, Nat.reduceLeDiff, Int.reduceToNat, Int.reduceLT, Int.reduceLE, Int.reduceEq, Int.reduceNeg, Int.reduceAdd, Int.reduceSub, Int.reduceMul]
    refine gfc_of (listRef_md _ row ws s hlen hw) ?_
    rintro x11 h11 ⟨E11, s11⟩
    have s := s.ext E11
    simp (disch := first | omega | (simp only [List.length_append, List.length_cons, List.length_nil]; omega)) only [go_sem, ↓reduceIte, reduceCtorEq, Nat.reduceAdd, Nat.reduceSub, Nat.reducePow, Nat.reduceMul, Nat.reduceEqDiff, Nat.reduceLT, Nat.reduceLeDiff, Int.reduceToNat, Int.reduceLT, Int.reduceLE, Int.reduceEq, Int.reduceNeg, Int.reduceAdd, Int.reduceSub, Int.reduceMul]
    refine gfc_of (sameInts_fc _ x10 x11 _ _ (SlOf.ext s10 E11) s11 hle hle) ?_
    rintro d h' ⟨rfl, e⟩
    rw [e]
    simp (disch := first | omega | (simp only [List.length_append, List.length_cons, List.length_nil]; omega)) only [go_sem, ↓reduceIte, reduceCtorEq, Nat.reduceAdd, Nat.reduceSub, Nat.reducePow, Nat.reduceMul, Nat.reduceEqDiff, Nat.reduceLT, Nat.reduceLeDiff, Int.reduceToNat, Int.reduceLT, Int.reduceLE, Int.reduceEq, Int.reduceNeg, Int.reduceAdd, Int.reduceSub, Int.reduceMul]
    refine gfc_of (count_fc _ row ws s hlen hw) ?_
    rintro d h' ⟨rfl, e⟩
    rw [e]
    simp (disch := first | omega | (simp only [List.length_append, List.length_cons, List.length_nil]; omega)) only [go_sem, ↓reduceIte, reduceCtorEq, Nat.reduceAdd, Nat.reduceSub, Nat.reducePow, Nat.reduceMul, Nat.reduceEqDiff, Nat.reduceLT, Nat.reduceLeDiff, Int.reduceToNat, Int.reduceLT, Int.reduceLE, Int.reduceEq, Int.reduceNeg, Int.reduceAdd, Int.reduceSub, Int.reduceMul]
    refine gfc_of (listRef_md _ row ws s hlen hw) ?_
    rintro x12 h12 ⟨E12, s12⟩
    have k12 := s12.lend
    have o12 := s12.sort
    simp (disch := first | omega | (simp only [List.length_append, List.length_cons, List.length_nil]; omega)) only [k12, o12, go_sem, ↓reduceIte, reduceCtorEq, Nat.reduceAdd, Nat.reduceSub, Nat.reducePow, Nat.reduceMul, Nat.reduceEqDiff, Nat.reduceLT, Nat.reduceLeDiff, Int.reduceToNat, Int.reduceLT, Int.reduceLE, Int.reduceEq, Int.reduceNeg, Int.reduceAdd, Int.reduceSub, Int.reduceMul]
    refine fin_ext ?_ rfl ⟨rfl, rfl⟩
    exact E4.trans (F6.trans (F8.trans (E9.trans (E10.trans (E11.trans E12)))))

theorem sets_law (h : Heap) (x0 : (Sh.int .i64).T) (ok0 : (Sh.int .i64).ok x0) (x1 : (Sh.sl (.int .u64)).T) (ok1 : (Sh.sl (.int .u64)).ok x1) (x2 : (Sh.int .i64).T) (ok2 : (Sh.int .i64).ok x2)
    (hv : (Sh.int .i64).vol x0 + (Sh.sl (.int .u64)).vol x1 + (Sh.int .i64).vol x2 ≤ 1048576)
    (D0 : D) (en0 : (Sh.int .i64).EncV x0 D0) (D1 : D) (en1 : (Sh.sl (.int .u64)).EncV x1 D1) (D2 : D) (en2 : (Sh.int .i64).EncV x2 D2) : FC Try.prog 5 [D0, D1, D2] h fun d h' => d = .bool true ∧ h' = h := by
  simp only [Sh.EncV] at en0 en2
  subst en0
  subst en2
  obtain ⟨ws, w1, w2, w3, w4⟩ := row_open ok1 en1
  have g0 := ok_i64 ok0
  have g2 := ok_i64 ok2
  exact sets_fc h x0 D1 ws x2 (w4 h) (by omega) w1 g0.1 (by omega) g2.1 (by omega)

/-! ### BitrowJoins -/
theorem joins_fc (h : Heap) (rows : D) (rs : List (List Nat)) (hr : RowsOf h rows rs) (hlen : rs.length ≤ 1048576) (hl : ∀ x ∈ rs, x.length ≤ 1048576) (hw : ∀ x ∈ rs, Words x) :
    FC Try.prog 6 [rows] h fun d h' => d = .bool true ∧ h' = h := by
  have hr0 := hr
  obtain ⟨ds, s, hds⟩ := hr
  have k1 := s.lend
  have k2 := s.sort
  refine FC.goes cf6 ?_; simp only [c6]; simp only [List.length_cons, List.length_nil, Nat.reduceAdd, Nat.reduceSub, List.replicate_succ, List.replicate_zero, List.cons_append, List.nil_append]
  by_cases hgt : (20 : Int) < rs.length
  · simp (disch := first | omega | (simp only [List.length_append, List.length_cons, List.length_nil]; omega)) only [c6r0, c6r1, c6r2, c6r3, c6r4, c6r5, c6r6, c6r7, c6l8, c6r9, k1, k2, hgt, go_sem, ↓reduceIte, reduceCtorEq, Nat.reduceAdd, Nat.reduceSub, Nat.reducePow, Nat.reduceMul, Nat.reduceEqDiff, Nat.reduceLT, Nat.reduceLeDiff, Int.reduceToNat, Int.reduceLT, Int.reduceLE, Int.reduceEq, Int.reduceNeg, Int.reduceAdd, Int.reduceSub, Int.reduceMul]
    refine gfc_of (live18 _) ?_
    rintro d h' ⟨rfl, e⟩
    rw [e]
    simp (disch := first | omega | (simp only [List.length_append, List.length_cons, List.length_nil]; omega)) only [go_sem, ↓reduceIte, reduceCtorEq, Nat.reduceAdd, Nat.reduceSub, Nat.reducePow, Nat.reduceMul, Nat.reduceEqDiff, Nat.reduceLT, Nat.reduceLeDiff, Int.reduceToNat, Int.reduceLT, Int.reduceLE, Int.reduceEq, Int.reduceNeg, Int.reduceAdd, Int.reduceSub, Int.reduceMul]
    exact FinOk.all ⟨rfl, rfl⟩
  · simp (disch := first | omega | (simp only [List.length_append, List.length_cons, List.length_nil]; omega)) only [c6r0, c6r1, c6r2, c6r3, c6r4, c6r5, c6r6, c6r7, c6l8, c6r9, k1, k2, hgt, go_sem, ↓reduceIte, reduceCtorEq, Nat.reduceAdd, Nat.reduceSub, Nat.reducePow, Nat.reduceMul, Nat.reduceEqDiff, Nat.reduceLT, Nat.reduceLeDiff, Int.reduceToNat, Int.reduceLT, Int.reduceLE, Int.reduceEq, Int.reduceNeg, Int.reduceAdd, Int.reduceSub, Int.reduceMul]
    refine loop_to rs.length (fun k st => (∀ i < k, (rs.getD i []).length ≤ 20) ∧ ∃ (j : Nat → D), st = ⟨(rows :: j 1 :: j 2 :: .int .i64 (k : Int) :: j 4 :: j 5 :: j 6 :: j 7 :: j 8 :: j 9 :: j 10 :: j 11 :: j 12 :: j 13 :: j 14 :: j 15 :: j 16 :: j 17 :: j 18 :: j 19 :: j 20 :: j 21 :: j 22 :: j 23 :: j 24 :: j 25 :: j 26 :: j 27 :: j 28 :: j 29 :: j 30 :: j 31 :: j 32 :: j 33 :: j 34 :: j 35 :: []), h⟩) ⟨fun i hi => absurd hi (by omega), junk rfl⟩ ?_
    rintro k st hk ⟨hp, j, rfl⟩
    by_cases hkn : k < rs.length
    · have hkn' : (k : Int) < rs.length := by omega
      obtain ⟨p3, cs3, e3, f1, f2, f4, s3⟩ := RowsOf.elem hr0 hkn
      have e5 : IntKind.i64.wrap ((k : Int) + 1) = ((k + 1 : Nat) : Int) := by rw [w_i64 (by omega) (by omega)]; omega
      by_cases hb : (20 : Int) < (rs.getD k []).length
      · simp (disch := first | omega | (simp only [List.length_append, List.length_cons, List.length_nil]; omega)) only [c6r0, c6r1, c6r2, c6r3, c6r4, c6r5, c6r6, c6r7, c6l8, c6r9, k1, k2, hkn', f1, f2, f4, s3.lend, s3.sort, hb, go_sem, ↓reduceIte, reduceCtorEq, Nat.reduceAdd, Nat.reduceSub, Nat.reducePow, Nat.reduceMul, Nat.reduceEqDiff, Nat.reduceLT, Nat.reduceLeDiff, Int.reduceToNat, Int.reduceLT, Int.reduceLE, Int.reduceEq, Int.reduceNeg, Int.reduceAdd, Int.reduceSub, Int.reduceMul]
        refine gfc_of (live18 _) ?_
        rintro d h' ⟨rfl, e⟩
        rw [e]
        simp (disch := first | omega | (simp only [List.length_append, List.length_cons, List.length_nil]; omega)) only [go_sem, ↓reduceIte, reduceCtorEq, Nat.reduceAdd, Nat.reduceSub, Nat.reducePow, Nat.reduceMul, Nat.reduceEqDiff, Nat.reduceLT, Nat.reduceLeDiff, Int.reduceToNat, Int.reduceLT, Int.reduceLE, Int.reduceEq, Int.reduceNeg, Int.reduceAdd, Int.reduceSub, Int.reduceMul]
        exact FinOk.all ⟨rfl, rfl⟩
      · simp (disch := first | omega | (simp only [List.length_append, List.length_cons, List.length_nil]; omega)) only [c6r0, c6r1, c6r2, c6r3, c6r4, c6r5, c6r6, c6r7, c6l8, c6r9, k1, k2, hkn', f1, f2, f4, s3.lend, s3.sort, hb, e5, go_sem, ↓reduceIte, reduceCtorEq, Nat.reduceAdd, Nat.reduceSub, Nat.reducePow, Nat.reduceMul, Nat.reduceEqDiff, Nat.reduceLT, Nat.reduceLeDiff, Int.reduceToNat, Int.reduceLT, Int.reduceLE, Int.reduceEq, Int.reduceNeg, Int.reduceAdd, Int.reduceSub, Int.reduceMul]
        refine ⟨hkn, fun i hi => ?_, junk rfl⟩
        by_cases hik : i = k
        · subst hik; omega
        · exact hp i (by omega)
    · have hkn' : ¬ (k : Int) < rs.length := by omega
      have hkr : k = rs.length := by omega
      have hl20 : ∀ x ∈ rs, x.length ≤ 20 := by
        intro x hx
        obtain ⟨i, hi, rfl⟩ := List.getElem_of_mem hx
        have := hp i (by omega)
        rwa [List.getD_eq_getElem?_getD, List.getElem?_eq_getElem hi] at this
      have hl3 : ∀ x ∈ rs, x.length ≤ 1000 := fun x hx => Nat.le_trans (hl20 x hx) (by omega)
      have hal : (andR rs).length ≤ 1048576 := by
        cases rs with
        | nil => simp [andR]
        | cons r rs =>
          rw [andR, andF_length]
          have := minL_le rs r.length
          have := hl r (by simp)
          omega
      have hol : (orR rs).length ≤ 1048576 := by
        rw [orR, orF_length]
        exact maxL_le _ _ _ (by simp) hl
      simp (disch := first | omega | (simp only [List.length_append, List.length_cons, List.length_nil]; omega)) only [c6r0, c6r1, c6r2, c6r3, c6r4, c6r5, c6r6, c6r7, c6l8, c6r9, k1, k2, hkn', go_sem, ↓reduceIte, reduceCtorEq, Nat.reduceAdd, Nat.reduceSub, Nat.reducePow, Nat.reduceMul, Nat.reduceEqDiff, Nat.reduceLT, Nat.reduceLeDiff, Int.reduceToNat, Int.reduceLT, Int.reduceLE, Int.reduceEq, Int.reduceNeg, Int.reduceAdd, Int.reduceSub, Int.reduceMul]
      refine gfc_of (live18 _) ?_
      rintro d h' ⟨rfl, e⟩
      rw [e]
      simp (disch := first | omega | (simp only [List.length_append, List.length_cons, List.length_nil]; omega)) only [go_sem, ↓reduceIte, reduceCtorEq, Nat.reduceAdd, Nat.reduceSub, Nat.reducePow, Nat.reduceMul, Nat.reduceEqDiff, Nat.reduceLT, Nat.reduceLeDiff, Int.reduceToNat, Int.reduceLT, Int.reduceLE, Int.reduceEq, Int.reduceNeg, Int.reduceAdd, Int.reduceSub, Int.reduceMul]
      refine gfc_of (and_md _ rows rs hr0 hlen hl hw) ?_
      rintro x5 h5 ⟨E5, s5⟩
      have hr0 := hr0.ext E5
      simp (disch := first | omega | (simp only [List.length_append, List.length_cons, List.length_nil]; omega)) only [go_sem, ↓reduceIte, reduceCtorEq, Nat.reduceAdd, Nat.reduceSub, Nat.reducePow, Nat.reduceMul, Nat.reduceEqDiff, Nat.reduceLT, Nat.reduceLeDiff, Int.reduceToNat, Int.reduceLT, Int.reduceLE, Int.reduceEq, Int.reduceNeg, Int.reduceAdd, Int.reduceSub, Int.reduceMul]
      refine gfc_of (andRef_fc _ rows rs hr0 hlen hl3 hw) ?_
      rintro x6 h6 ⟨L6, E6, s6⟩
      have E6 : Ext h5 h6 := ⟨L6, E6⟩
      simp (disch := first | omega | (simp only [List.length_append, List.length_cons, List.length_nil]; omega)) only [go_sem, ↓reduceIte, reduceCtorEq, Nat.reduceAdd, Nat.reduceSub, Nat.reducePow, Nat.reduceMul, Nat.reduceEqDiff, Nat.reduceLT, Nat.reduceLeDiff, Int.reduceToNat, Int.reduceLT, Int.reduceLE, Int.reduceEq, Int.reduceNeg, Int.reduceAdd, Int.reduceSub, Int.reduceMul]
      refine gfc_of (same_fc _ x5 x6 _ _ (s5.ext E6) s6 hal hal) ?_
      rintro d h' ⟨rfl, e⟩
      rw [e]
      have hr0 := hr0.ext E6
      simp (disch := first | omega | (simp only [List.length_append, List.length_cons, List.length_nil]; omega)) only [go_sem, ↓reduceIte, reduceCtorEq, Nat.reduceAdd, Nat.reduceSub, Nat.reducePow, Nat.reduceMul, Nat.reduceEqDiff, Nat.reduceLT, Nat.reduceLeDiff, Int.reduceToNat, Int.reduceLT, Int.reduceLE, Int.reduceEq, Int.reduceNeg, Int.reduceAdd, Int.reduceSub, Int.reduceMul]
      refine gfc_of (or_md _ rows rs hr0 hlen hl hw) ?_
      rintro x7 h7 ⟨E7, s7⟩
      have hr0 := hr0.ext E7
      simp (disch := first | omega | (simp only [List.length_append, List.length_cons, List.length_nil]; omega)) only [go_sem, ↓reduceIte, reduceCtorEq, Nat.reduceAdd, Nat.reduceSub, Nat.reducePow, Nat.reduceMul, Nat.reduceEqDiff, Nat.reduceLT, Nat.reduceLeDiff, Int.reduceToNat, Int.reduceLT, Int.reduceLE, Int.reduceEq, Int.reduceNeg, Int.reduceAdd, Int.reduceSub, Int.reduceMul]
      refine gfc_of (orRef_fc _ rows rs hr0 hlen hl3 hw) ?_
      rintro x8 h8 ⟨L8, E8, s8⟩
      have E8 : Ext h7 h8 := ⟨L8, E8⟩
      simp (disch := first | omega | (simp only [List.length_append, List.length_cons, List.length_nil]; omega)) only [go_sem, ↓reduceIte, reduceCtorEq, Nat.reduceAdd, Nat.reduceSub, Nat.reducePow, Nat.reduceMul, Nat.reduceEqDiff, Nat.reduceLT, Nat.reduceLeDiff, Int.reduceToNat, Int.reduceLT, Int.reduceLE, Int.reduceEq, Int.reduceNeg, Int.reduceAdd, Int.reduceSub, Int.reduceMul]
      refine gfc_of (same_fc _ x7 x8 _ _ (s7.ext E8) s8 hol hol) ?_
      rintro d h' ⟨rfl, e⟩
      rw [e]
      simp (disch := first | omega | (simp only [List.length_append, List.length_cons, List.length_nil]; omega)) only [go_sem, ↓reduceIte, reduceCtorEq, Nat.reduceAdd, Nat.reduceSub, Nat.reducePow, Nat.reduceMul, Nat.reduceEqDiff, Nat.reduceLT, Nat.reduceLeDiff, Int.reduceToNat, Int.reduceLT, Int.reduceLE, Int.reduceEq, Int.reduceNeg, Int.reduceAdd, Int.reduceSub, Int.reduceMul]
      refine fin_ext ?_ rfl ⟨rfl, rfl⟩
      exact E5.trans (E6.trans (E7.trans E8))
theorem joins_law (h : Heap) (x0 : (Sh.sl (.sl (.int .u64))).T) (ok0 : (Sh.sl (.sl (.int .u64))).ok x0) (hv : (Sh.sl (.sl (.int .u64))).vol x0 ≤ 1048576)
    (D0 : D) (en0 : (Sh.sl (.sl (.int .u64))).EncV x0 D0) : FC Try.prog 6 [D0] h fun d h' => d = .bool true ∧ h' = h := by
  obtain ⟨rs, q1, q2, q3, q4⟩ := rows_open ok0 en0
  exact joins_fc h D0 rs (q4 h) (by omega) (fun x hx => by have := q3 x hx; omega) q1
end Go.Proofs
