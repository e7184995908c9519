/-
  Own work. The law DirectHas.
-/
import Derived.Test.YtjciahobhaaheaaS
namespace Go.Proofs
open Go Go.Ytjciahobhaaheaa
set_option linter.unusedVariables false
set_option linter.unusedSimpArgs false
set_option maxRecDepth 10000

/-! ### weighbridge/weighbridgelaw21.DirectHas, params 3 -/
def c4r0 : List AStm := [.op (some 4) none (.box (.t 1)),
    .op (some 6) none (.mv (.c (.bool false)))]
def c4r1 : List AStm := [.op (some 7) none (.mv (.c .nils))]
def c4r2 : List AStm := [.op (some 8) none (.mv (.c (.int .i64 0)))]
def c4r3 : List AStm := [.op (some 14) none (.mv (.t 8)),
    .op (some 15) none (.mv (.t 0)),
    .op (some 16) none (.len false (.t 15)),
    .op (some 17) none (.bin .lss (.t 14) (.t 16)),
    .op (some 18) none (.mv (.t 17)),
    .op (some 19) (some (18, true)) (.mv (.t 8)),
    .op (some 20) (some (18, true)) (.bin .lss (.t 19) (.c (.int .i64 100))),
    .op (some 21) none (.pick (.t 18) (.t 20) (.c (.bool false)))]
def c4r4 : List AStm := [.op (some 24) none (.mv (.t 7)),
    .op (some 25) none (.mv (.t 0)),
    .op (some 26) none (.mv (.t 8)),
    .op (some 27) none (.ixs 1 (.t 25) (.t 26)),
    .op (some 28) none (.load none (.t 27)),
    .op (some 29) none (.conv .i64 (.t 28)),
    .op (some 30) none (.bin .rem (.t 29) (.c (.int .i64 256))),
    .op (some 31) none (.mnx true (.c (.int .i64 (-1))) (.t 30)),
    .op (some 32) none (.bslice 1 [(.int .i64 0)] 1 [(0, 1, (.t 31))]),
    .op (some 33) none (.append false 1 8 (.t 24) (.t 32)),
    .op (some 7) none (.mv (.t 33))]
def c4r5 : List AStm := [.op (some 22) none (.mv (.t 8)),
    .op (some 23) none (.bin .add (.t 22) (.c (.int .i64 1))),
    .op (some 8) none (.mv (.t 23))]
def c4l6 : AC := .seq (.seq (.reg c4r3) (.cond (.t 21) (.skip) (.exit 0))) (.seq (.block 1 (.reg c4r4)) (.reg c4r5))
def c4r7 : List AStm := [.op (some 35) none (.mv (.t 7)),
    .call (some 36) none (.c (.fn (.func 9) [] [])) [(.t 35), (.c (.int .i64 255))],
    .op (some 34) none (.mv (.t 36)),
    .op (some 37) none (.ext (.t 34) 0),
    .op (some 38) none (.ext (.t 34) 1),
    .op (some 10) none (.alloc [(.int .i64 0), (.int .i64 0)]),
    .op (some 9) none (.mv (.t 37)),
    .op none none (.store 2 (.t 10) (.t 38))]
def c4r8 : List AStm := [.op (some 39) none (.mv (.t 9)),
    .op (some 40) none (.isnil false 1 (.t 39)),
    .op (some 41) none (.mv (.t 40)),
    .op (some 42) (some (41, false)) (.load (some 2) (.t 10)),
    .op (some 43) (some (41, false)) (.build [(.int .i64 0), (.int .i64 0)] []),
    .op (some 44) (some (41, false)) (.eqa true [.ki, .ki] (.t 42) (.t 43)),
    .op (some 45) none (.pick (.t 41) (.c (.bool true)) (.t 44)),
    .op (some 46) none (.mv (.t 45)),
    .op (some 47) (some (46, false)) (.mv (.t 7)),
    .op (some 48) (some (46, false)) (.len false (.t 47)),
    .op (some 49) (some (46, false)) (.bin .eql (.t 48) (.c (.int .i64 0))),
    .op (some 50) none (.pick (.t 46) (.c (.bool true)) (.t 49))]
def c4r9 : List AStm := [.call (some 51) none (.c (.fn (.func 11) [] [])) [],
    .op (some 52) none (.mv (.t 51)),
    .op (some 53) (some (52, true)) (.mv (.t 7)),
    .op (some 54) (some (52, true)) (.len false (.t 53)),
    .op (some 55) (some (52, true)) (.bin .eql (.t 54) (.c (.int .i64 0))),
    .op (some 56) none (.pick (.t 52) (.t 55) (.c (.bool false))),
    .op (some 57) none (.mv (.t 56)),
    .op (some 58) (some (57, true)) (.mv (.t 9)),
    .op (some 59) (some (57, true)) (.isnil true 1 (.t 58)),
    .op (some 60) none (.pick (.t 57) (.t 59) (.c (.bool false))),
    .op (some 6) none (.mv (.t 60))]
def c4r10 : List AStm := [.op (some 61) none (.mv (.t 2)),
    .op (some 62) none (.conv .i64 (.t 61)),
    .op (some 63) none (.mv (.t 7)),
    .op (some 64) none (.len false (.t 63)),
    .op (some 65) none (.bin .rem (.t 62) (.t 64)),
    .op (some 11) none (.mv (.t 65))]
def c4r11 : List AStm := []
def c4r12 : List AStm := [.op (some 66) none (.mv (.t 9)),
    .op (some 67) none (.ixa 2 1 (.t 4) (.c (.int .i64 0))),
    .op (some 68) none (.load none (.t 67)),
    .op (some 69) none (.conv .i64 (.t 68)),
    .op (some 71) none (.mv (.t 11)),
    .op (some 73) none (.mv (.t 9)),
    .op (some 74) none (.ixa 2 1 (.t 4) (.c (.int .i64 1))),
    .op (some 75) none (.load none (.t 74)),
    .op (some 76) none (.conv .i64 (.t 75)),
    .op (some 78) none (.mv (.t 11)),
    .callG (some 70) none (.c (.fn (.func 13) [] [])) [(.t 66), (.t 69)],
    .callG (some 72) none (.c (.fn (.func 18) [] [])) [(.t 70), (.t 71)],
    .callG (some 77) none (.c (.fn (.func 13) [] [])) [(.t 73), (.t 76)],
    .callG (some 79) none (.c (.fn (.func 18) [] [])) [(.t 77), (.t 78)],
    .op (some 12) none (.mv (.t 72)),
    .op (some 13) none (.mv (.t 79))]
def c4r13 : List AStm := [.op (some 80) none (.mv (.t 7)),
    .op (some 81) none (.mv (.t 11)),
    .op (some 82) none (.ixs 1 (.t 80) (.t 81)),
    .op (some 83) none (.load none (.t 82)),
    .op (some 84) none (.bin .eql (.t 83) (.c (.int .i64 (-1))))]
def c4r14 : List AStm := [.call (some 85) none (.c (.fn (.func 11) [] [])) [],
    .op (some 86) none (.mv (.t 85)),
    .op (some 87) (some (86, true)) (.mv (.t 12)),
    .op (some 88) none (.pick (.t 86) (.t 87) (.c (.bool false))),
    .op (some 89) none (.mv (.t 88)),
    .op (some 90) (some (89, true)) (.mv (.t 13)),
    .op (some 91) none (.pick (.t 89) (.t 90) (.c (.bool false))),
    .op (some 6) none (.mv (.t 91))]
def c4r15 : List AStm := []
def c4r16 : List AStm := [.callG (some 92) none (.c (.fn (.func 11) [] [])) [],
    .op (some 93) none (.mv (.t 92)),
    .op (some 94) (some (93, true)) (.mv (.t 12)),
    .op (some 95) (some (93, true)) (.mv (.t 7)),
    .op (some 96) (some (93, true)) (.mv (.t 11)),
    .op (some 97) (some (93, true)) (.ixs 1 (.t 95) (.t 96)),
    .op (some 98) (some (93, true)) (.load none (.t 97)),
    .op (some 99) (some (93, true)) (.ixa 2 1 (.t 4) (.c (.int .i64 0))),
    .op (some 100) (some (93, true)) (.load none (.t 99)),
    .op (some 101) (some (93, true)) (.conv .i64 (.t 100)),
    .op (some 102) (some (93, true)) (.bin .eql (.t 98) (.t 101)),
    .op (some 103) (some (93, true)) (.eqb false (.t 94) (.t 102)),
    .op (some 104) none (.pick (.t 93) (.t 103) (.c (.bool false))),
    .op (some 105) none (.mv (.t 104)),
    .op (some 106) (some (105, true)) (.mv (.t 13)),
    .op (some 107) (some (105, true)) (.mv (.t 7)),
    .op (some 108) (some (105, true)) (.mv (.t 11)),
    .op (some 109) (some (105, true)) (.ixs 1 (.t 107) (.t 108)),
    .op (some 110) (some (105, true)) (.load none (.t 109)),
    .op (some 111) (some (105, true)) (.ixa 2 1 (.t 4) (.c (.int .i64 1))),
    .op (some 112) (some (105, true)) (.load none (.t 111)),
    .op (some 113) (some (105, true)) (.conv .i64 (.t 112)),
    .op (some 114) (some (105, true)) (.bin .eql (.t 110) (.t 113)),
    .op (some 115) (some (105, true)) (.eqb false (.t 106) (.t 114)),
    .op (some 116) none (.pick (.t 105) (.t 115) (.c (.bool false))),
    .op (some 117) none (.mv (.t 116)),
    .op (some 118) (some (117, true)) (.mv (.t 9)),
    .op (some 119) (some (117, true)) (.mv (.t 7)),
    .op (some 120) (some (117, true)) (.mv (.t 11)),
    .op (some 121) (some (117, true)) (.ixs 1 (.t 119) (.t 120)),
    .op (some 122) (some (117, true)) (.load none (.t 121)),
    .op (some 124) (some (117, true)) (.mv (.t 11)),
    .callG (some 123) (some (117, true)) (.c (.fn (.func 13) [] [])) [(.t 118), (.t 122)],
    .callG (some 125) (some (117, true)) (.c (.fn (.func 18) [] [])) [(.t 123), (.t 124)],
    .op (some 126) none (.pick (.t 117) (.t 125) (.c (.bool false))),
    .op (some 6) none (.mv (.t 126))]
def c4 : CF := ⟨.seq (.reg c4r0) (.seq (.reg c4r1) (.seq (.seq (.reg c4r2) (.block 0 (.loop c4l6))) (.seq (.reg c4r7) (.seq (.seq (.reg c4r8) (.cond (.t 50) (.seq (.reg c4r9) (.ret)) (.skip))) (.seq (.reg c4r10) (.seq (.dreg c4r11 c4r12) (.seq (.seq (.reg c4r13) (.cond (.t 84) (.seq (.reg c4r14) (.ret)) (.skip))) (.seq (.dreg c4r15 c4r16) (.ret))))))))), [.tmp 6], 127⟩
theorem cf4 : cfun Try.prog 4 = some c4 := by kernel_rfl



def wish (x : Int) : Int := if -1 < Int.tmod x 256 then Int.tmod x 256 else -1
theorem tmod_in (x : Int) : -256 < Int.tmod x 256 ∧ Int.tmod x 256 < 256 := by
  have h := Int.emod_nonneg x (b := 256) (by omega)
  have h2 := Int.emod_lt_of_pos x (b := 256) (by omega)
  have h3 := Int.tmod_eq_emod (a := x) (b := 256)
  rw [h3]
  split <;> simp <;> omega
theorem wish_in (x : Int) : -1 ≤ wish x ∧ wish x ≤ 255 := by
  have := tmod_in x
  unfold wish
  split <;> omega
def wishes (l : List Int) (k : Nat) : List Int := (l.take k).map wish
theorem wishes_succ {l : List Int} {k : Nat} (h : k < l.length) : wishes l (k + 1) = wishes l k ++ [wish (l.getD k 0)] := by
  rw [wishes, List.take_add_one, List.map_append, List.getElem?_eq_getElem h, List.getD_eq_getElem?_getD, List.getElem?_eq_getElem h]; rfl
theorem ints_snoc (l : List Int) (x : Int) : ints (l ++ [x]) = ints l ++ [.int .i64 x] := by simp [ints]
theorem getD_mem_int {l : List Int} {i : Nat} (h : i < l.length) : l.getD i 0 ∈ l := by
  rw [List.getD_eq_getElem?_getD, List.getElem?_eq_getElem h]; exact List.getElem_mem h
theorem find_has {W : List Int} {n i : Nat} (hi : i < W.length) (hn : n ≤ 255) : hasB (findR W 255 (n : Int)) i = (W.getD i 0 == -1 || W.getD i 0 == (n : Int)) := by
  rw [findR, rowP_has (Nat.le_refl _)]
  have h1 : (0 : Int) ≤ n := by omega
  have h2 : (n : Int) ≤ 255 := by omega
  unfold findP
  simp only [hi, h1, h2, decide_true, Bool.true_and, true_and, Bool.decide_eq_true]

theorem dhas_fc (h : Heap) (lD : D) (l : List Int) (a b c : Nat) (s : SlOf h 1 lD (l.map (D.int .i16)) l.length) (hlen : l.length ≤ 1048576) (hl : ∀ x ∈ l, -32768 ≤ x ∧ x ≤ 32767) (ha : a < 256) (hb : b < 256) (hc : c < 256) :
    FC Try.prog 4 [lD, .agg [.int .u8 (a : Int), .int .u8 (b : Int)], .int .u8 (c : Int)] h fun d h' => d = .bool true ∧ h' = h := by
  refine FC.goes cf4 ?_; simp only [c4]; simp only [List.length_cons, List.length_nil, Nat.reduceAdd, Nat.reduceSub, List.replicate_succ, List.replicate_zero, List.cons_append, List.nil_append]
  simp (disch := first | omega | (simp only [List.length_append, List.length_cons, List.length_nil]; omega)) only [c4r0, c4r1, c4r2, c4r3, c4r4, c4r5, c4l6, c4r7, c4r8, c4r9, c4r10, c4r11, c4r12, c4r13, c4r14, c4r15, c4r16, go_sem, ↓reduceIte, reduceCtorEq, Nat.reduceAdd, Nat.reduceSub, Nat.reducePow, Nat.reduceMul, Nat.reduceEqDiff, Nat.reduceLT, Nat.reduceLeDiff, Int.reduceToNat, Int.reduceLT, Int.reduceLE, Int.reduceEq, Int.reduceNeg, Int.reduceAdd, Int.reduceSub, Int.reduceMul]
  have EB : Ext h (h ++ [.box [.int .u8 (a : Int), .int .u8 (b : Int)]]) := ⟨_, rfl⟩
  have bB := last_get h (.box [.int .u8 (a : Int), .int .u8 (b : Int)])
  have s := SlOf.ext s EB
  generalize hh1 : h ++ [.box [.int .u8 (a : Int), .int .u8 (b : Int)]] = h1 at *
  generalize h.length = rb at *
  refine loop_to (min l.length 100) (fun k st => ∃ (d : D) (H : Heap), AppSt h1 (ints (wishes l k)) k d H ∧ ∃ (j : Nat → D), st = ⟨(lD :: j 1 :: .int .u8 (c : Int) :: j 3 :: .ref rb 0 :: j 5 :: j 6 :: d :: .int .i64 (k : Int) :: j 9 :: j 10 :: j 11 :: j 12 :: j 13 :: j 14 :: j 15 :: j 16 :: j 17 :: j 18 :: j 19 :: j 20 :: j 21 :: j 22 :: j 23 :: j 24 :: j 25 :: j 26 :: j 27 :: j 28 :: j 29 :: j 30 :: j 31 :: j 32 :: j 33 :: j 34 :: j 35 :: j 36 :: j 37 :: j 38 :: j 39 :: j 40 :: j 41 :: j 42 :: j 43 :: j 44 :: j 45 :: j 46 :: j 47 :: j 48 :: j 49 :: j 50 :: j 51 :: j 52 :: j 53 :: j 54 :: j 55 :: j 56 :: j 57 :: j 58 :: j 59 :: j 60 :: j 61 :: j 62 :: j 63 :: j 64 :: j 65 :: j 66 :: j 67 :: j 68 :: j 69 :: j 70 :: j 71 :: j 72 :: j 73 :: j 74 :: j 75 :: j 76 :: j 77 :: j 78 :: j 79 :: j 80 :: j 81 :: j 82 :: j 83 :: j 84 :: j 85 :: j 86 :: j 87 :: j 88 :: j 89 :: j 90 :: j 91 :: j 92 :: j 93 :: j 94 :: j 95 :: j 96 :: j 97 :: j 98 :: j 99 :: j 100 :: j 101 :: j 102 :: j 103 :: j 104 :: j 105 :: j 106 :: j 107 :: j 108 :: j 109 :: j 110 :: j 111 :: j 112 :: j 113 :: j 114 :: j 115 :: j 116 :: j 117 :: j 118 :: j 119 :: j 120 :: j 121 :: j 122 :: j 123 :: j 124 :: j 125 :: j 126 :: []), h1 ++ H⟩) ⟨.nils, [], .inl ⟨rfl, by simp [wishes, ints], rfl, rfl⟩, by rw [List.append_nil]; exact junk rfl⟩ ?_
  rintro k st hk ⟨d, H, hap, j, rfl⟩
  have s' := s.low H
  by_cases hkn : k < l.length ∧ k < 100
  · have hkn' : (k : Int) < l.length := by omega
    have hk100 : (k : Int) < 100 := by omega
    obtain ⟨p, cs, e1, e2, e3⟩ := s'.elem (k := .i64) (i := (k : Int)) (by omega) (by omega)
    have e4 := e3 0 (by omega)
    have hg : (l.map (D.int .i16))[k]? = some (.int .i16 (l.getD k 0)) := by
      simp [List.getD_eq_getElem?_getD, List.getElem?_eq_getElem hkn.1]
    rw [show ((k : Int).toNat * 1 + 0) = k by omega, hg] at e4
    have hx := hl _ (getD_mem_int hkn.1)
    have hws := wishes_succ hkn.1
    generalize l.getD k 0 = x at *
    have ht := tmod_in x
    have e5 : IntKind.i64.wrap ((k : Int) + 1) = ((k + 1 : Nat) : Int) := by rw [w_i64 (by omega) (by omega)]; omega
    have e6 : IntKind.i64.wrap x = x := w_i64 (by omega) (by omega)
    have e7 : IntKind.i64.wrap (Int.tmod x 256) = Int.tmod x 256 := w_i64 (by omega) (by omega)
    obtain ⟨H', q1, q2⟩ := hap.app (.int .i64 (wish x)) (by omega) 8 (by omega)
    have hwi : (if -1 < Int.tmod x 256 then Int.tmod x 256 else (-1 : Int)) = wish x := rfl
    have hwi2 : (if Int.tmod x 256 > -1 then Int.tmod x 256 else (-1 : Int)) = wish x := rfl
    rw [← ints_snoc, ← hws] at q2
    simp (disch := first | omega | (simp only [List.length_append, List.length_cons, List.length_nil]; omega)) only [c4r0, c4r1, c4r2, c4r3, c4r4, c4r5, c4l6, c4r7, c4r8, c4r9, c4r10, c4r11, c4r12, c4r13, c4r14, c4r15, c4r16, s'.lend, s'.sort, hkn', hk100, e1, e2, e4, e5, e6, e7, hwi, hwi2, List.append_assoc, q1, go_sem, ↓reduceIte, reduceCtorEq, Nat.reduceAdd, Nat.reduceSub, Nat.reducePow, Nat.reduceMul, Nat.reduceEqDiff, Nat.reduceLT, Nat.reduceLeDiff, Int.reduceToNat, Int.reduceLT, Int.reduceLE, Int.reduceEq, Int.reduceNeg, Int.reduceAdd, Int.reduceSub, Int.reduceMul]
    exact ⟨by omega, _, H', q2, junk rfl⟩
  · have hwl : (wishes l k).length = k := by simp [wishes]; omega
    have hW : ∀ i, i < k → -1 ≤ (wishes l k).getD i 0 ∧ (wishes l k).getD i 0 ≤ 255 := fun i hi => by
      have := getD_mem_int (l := wishes l k) (i := i) (by omega)
      obtain ⟨y, _, hy⟩ := List.mem_map.1 this
      rw [← hy]; exact wish_in y
    have sw := hap.sl (by rw [ints_length, hwl])
    have EH : Ext h1 (h1 ++ H) := ⟨H, rfl⟩
    have bB := EH.get bB
    have hck : chkF (wishes l k) 255 = (0, 0) := chkF_good (by omega) (by omega) fun j hj => by
      have := hW j (by omega); omega
    generalize wishes l k = W at *
    have hend : (k : Int) < l.length → ¬ (k : Int) < 100 := by omega
    rw [← hwl] at sw
    generalize h1 ++ H = h2 at *
    have go2 : ∀ {C : Prop}, ((k : Int) < l.length → C) → (¬ (k : Int) < l.length → C) → C := fun {C} f g => by
      by_cases hq : (k : Int) < l.length
      · exact f hq
      · exact g hq
    refine go2 (fun hq => ?_) (fun hq => ?_)
    all_goals
      first
        | (have hq2 := hend hq
           simp (disch := first | omega | (simp only [List.length_append, List.length_cons, List.length_nil]; omega)) only [c4r0, c4r1, c4r2, c4r3, c4r4, c4r5, c4l6, c4r7, c4r8, c4r9, c4r10, c4r11, c4r12, c4r13, c4r14, c4r15, c4r16, s'.lend, s'.sort, hq, hq2, go_sem, ↓reduceIte, reduceCtorEq, Nat.reduceAdd, Nat.reduceSub, Nat.reducePow, Nat.reduceMul, Nat.reduceEqDiff, Nat.reduceLT, Nat.reduceLeDiff, Int.reduceToNat, Int.reduceLT, Int.reduceLE, Int.reduceEq, Int.reduceNeg, Int.reduceAdd, Int.reduceSub, Int.reduceMul])
        | (simp (disch := first | omega | (simp only [List.length_append, List.length_cons, List.length_nil]; omega)) only [c4r0, c4r1, c4r2, c4r3, c4r4, c4r5, c4l6, c4r7, c4r8, c4r9, c4r10, c4r11, c4r12, c4r13, c4r14, c4r15, c4r16, s'.lend, s'.sort, hq, go_sem, ↓reduceIte, reduceCtorEq, Nat.reduceAdd, Nat.reduceSub, Nat.reducePow, Nat.reduceMul, Nat.reduceEqDiff, Nat.reduceLT, Nat.reduceLeDiff, Int.reduceToNat, Int.reduceLT, Int.reduceLE, Int.reduceEq, Int.reduceNeg, Int.reduceAdd, Int.reduceSub, Int.reduceMul])
    all_goals
      refine gfc_of (dnew_fc _ d W sw (by omega) 255) ?_
      rintro d1 h3 ⟨E3, hr⟩
      rw [hck] at hr
      obtain ⟨T, rfl, tab⟩ : ∃ T, d1 = .tup [.ref T 0, .agg [.int .i64 0, .int .i64 0]] ∧ TabOk h3 T W 255 := by
        rcases hr with ⟨hcc, _⟩ | ⟨_, _, _, _, T, h7, h8⟩
        · exact absurd rfl hcc
        · exact ⟨T, h7, h8⟩
      have E4 : Ext h2 (h3 ++ [.box [.int .i64 0, .int .i64 0]]) := E3.app _
      have tab := tab.ext (Ext.app (Ext.refl h3) [.box [.int .i64 0, .int .i64 0]])
      have sw := SlOf.ext sw E4
      have bB := E4.get bB
      have EA : Ext h (h3 ++ [.box [.int .i64 0, .int .i64 0]]) := EB.trans (EH.trans E4)
      obtain ⟨csT, bT⟩ : ∃ cs, (h3 ++ [.box [.int .i64 0, .int .i64 0]])[T]? = some (.box cs) := by
        obtain ⟨M, ra, ks, t, _⟩ := tab
        exact ⟨_, t.box⟩
      by_cases hw0 : (W.length : Int) = 0
      · first
          | (exfalso; omega)
          | (simp (disch := first | omega | (simp only [List.length_append, List.length_cons, List.length_nil]; omega)) only [bT, sw.lend, sw.sort, hw0, fillD, splice0, go_sem, ↓reduceIte, reduceCtorEq, Nat.reduceAdd, Nat.reduceSub, Nat.reducePow, Nat.reduceMul, Nat.reduceEqDiff, Nat.reduceLT, Nat.reduceLeDiff, Int.reduceToNat, Int.reduceLT, Int.reduceLE, Int.reduceEq, Int.reduceNeg, Int.reduceAdd, Int.reduceSub, Int.reduceMul]
             generalize h3 ++ [.box [.int .i64 0, .int .i64 0]] = h4 at *
             refine gfc_of (live21 _) ?_
             rintro d h' ⟨rfl, e⟩
             rw [e]
             simp (disch := first | omega | (simp only [List.length_append, List.length_cons, List.length_nil]; omega)) only [bT, sw.lend, sw.sort, hw0, go_sem, ↓reduceIte, reduceCtorEq, Nat.reduceAdd, Nat.reduceSub, Nat.reducePow, Nat.reduceMul, Nat.reduceEqDiff, Nat.reduceLT, Nat.reduceLeDiff, Int.reduceToNat, Int.reduceLT, Int.reduceLE, Int.reduceEq, Int.reduceNeg, Int.reduceAdd, Int.reduceSub, Int.reduceMul]
             exact fin_ext EA rfl ⟨rfl, rfl⟩)
      · have hpos : 0 < W.length := by omega
        have f1 : IntKind.i64.wrap (c : Int) = (c : Int) := w_i64 (by omega) (by omega)
        have f2 : IntKind.i64.wrap (a : Int) = (a : Int) := w_i64 (by omega) (by omega)
        have f3 : IntKind.i64.wrap (b : Int) = (b : Int) := w_i64 (by omega) (by omega)
        have hi : c % W.length < W.length := Nat.mod_lt _ hpos
        have f4 : Int.tmod (c : Int) (W.length : Int) = ((c % W.length : Nat) : Int) := rfl
        obtain ⟨pw, cw, y1, y2, y3⟩ := sw.elem (k := .i64) (i := ((c % W.length : Nat) : Int)) (by omega) (by omega)
        have y4 := y3 0 (by omega)
        rw [show (((c % W.length : Nat) : Int).toNat * 1 + 0) = c % W.length by omega, ints_get hi] at y4
        simp (disch := first | omega | (simp only [List.length_append, List.length_cons, List.length_nil]; omega)) only [bT, bB, sw.lend, sw.sort, hw0, f1, f2, f3, f4, fillD, splice0, go_sem, ↓reduceIte, reduceCtorEq, Nat.reduceAdd, Nat.reduceSub, Nat.reducePow, Nat.reduceMul, Nat.reduceEqDiff, Nat.reduceLT, Nat.reduceLeDiff, Int.reduceToNat, Int.reduceLT, Int.reduceLE, Int.reduceEq, Int.reduceNeg, Int.reduceAdd, Int.reduceSub, Int.reduceMul]
        generalize h3 ++ [.box [.int .i64 0, .int .i64 0]] = h4 at *
        have fa := find_has (W := W) (n := a) hi (by omega)
        have fb := find_has (W := W) (n := b) hi (by omega)
        have hWi := hW (c % W.length) (by omega)
        generalize hiv : c % W.length = iv at *
        generalize hwv : W.getD iv 0 = wv at *
        refine xfc_of (dfind_fc _ T W 255 tab (by omega) (by omega) (a : Int) (by omega) (by omega)) ?_
        rintro xa h5 ⟨E5, sa⟩
        refine ⟨E5, ?_⟩
        have tab := tab.ext E5
        simp (disch := first | omega | (simp only [List.length_append, List.length_cons, List.length_nil]; omega)) only [go_sem, ↓reduceIte, reduceCtorEq, Nat.reduceAdd, Nat.reduceSub, Nat.reducePow, Nat.reduceMul, Nat.reduceEqDiff, Nat.reduceLT, Nat.reduceLeDiff, Int.reduceToNat, Int.reduceLT, Int.reduceLE, Int.reduceEq, Int.reduceNeg, Int.reduceAdd, Int.reduceSub, Int.reduceMul]
        refine xfc_of (has_fc _ xa _ sa (rowP_words _ _ _) (iv : Int) (by omega) (by omega)) ?_
        rintro d h' ⟨rfl, e⟩
        refine ⟨⟨[], by rw [e, List.append_nil]⟩, ?_⟩
        rw [e, hasR_nat, fa]
        simp (disch := first | omega | (simp only [List.length_append, List.length_cons, List.length_nil]; omega)) only [go_sem, ↓reduceIte, reduceCtorEq, Nat.reduceAdd, Nat.reduceSub, Nat.reducePow, Nat.reduceMul, Nat.reduceEqDiff, Nat.reduceLT, Nat.reduceLeDiff, Int.reduceToNat, Int.reduceLT, Int.reduceLE, Int.reduceEq, Int.reduceNeg, Int.reduceAdd, Int.reduceSub, Int.reduceMul]
        refine xfc_of (dfind_fc _ T W 255 tab (by omega) (by omega) (b : Int) (by omega) (by omega)) ?_
        rintro xb h6 ⟨E6, sb⟩
        refine ⟨E6, ?_⟩
        have tab := tab.ext E6
        have E56 := E5.trans E6
        have y1 := SlOf.ext sw E56
        simp (disch := first | omega | (simp only [List.length_append, List.length_cons, List.length_nil]; omega)) only [go_sem, ↓reduceIte, reduceCtorEq, Nat.reduceAdd, Nat.reduceSub, Nat.reducePow, Nat.reduceMul, Nat.reduceEqDiff, Nat.reduceLT, Nat.reduceLeDiff, Int.reduceToNat, Int.reduceLT, Int.reduceLE, Int.reduceEq, Int.reduceNeg, Int.reduceAdd, Int.reduceSub, Int.reduceMul]
        refine xfc_of (has_fc _ xb _ sb (rowP_words _ _ _) (iv : Int) (by omega) (by omega)) ?_
        rintro d h' ⟨rfl, e⟩
        refine ⟨⟨[], by rw [e, List.append_nil]⟩, ?_⟩
        rw [e, hasR_nat, fb]
        have bB := E56.get bB
        have EA := EA.trans E56
        obtain ⟨pw, cw, z1, z2, z3⟩ := y1.elem (k := .i64) (i := (iv : Int)) (by omega) (by omega)
        have z4 := z3 0 (by omega)
        rw [show ((iv : Int).toNat * 1 + 0) = iv by omega, ints_get hi, hwv] at z4
        by_cases hm1 : wv = -1
        · have hb1 : (wv == -1) = true := by simpa using hm1
          rw [hb1]
          simp (disch := first | omega | (simp only [List.length_append, List.length_cons, List.length_nil]; omega)) only [z1, z2, z4, hm1, Bool.true_or, go_sem, ↓reduceIte, reduceCtorEq, Nat.reduceAdd, Nat.reduceSub, Nat.reducePow, Nat.reduceMul, Nat.reduceEqDiff, Nat.reduceLT, Nat.reduceLeDiff, Int.reduceToNat, Int.reduceLT, Int.reduceLE, Int.reduceEq, Int.reduceNeg, Int.reduceAdd, Int.reduceSub, Int.reduceMul]
          refine gfc_of (live21 _) ?_
          rintro d h' ⟨rfl, e⟩
          rw [e]
          simp (disch := first | omega | (simp only [List.length_append, List.length_cons, List.length_nil]; omega)) only [go_sem, ↓reduceIte, reduceCtorEq, Nat.reduceAdd, Nat.reduceSub, Nat.reducePow, Nat.reduceMul, Nat.reduceEqDiff, Nat.reduceLT, Nat.reduceLeDiff, Int.reduceToNat, Int.reduceLT, Int.reduceLE, Int.reduceEq, Int.reduceNeg, Int.reduceAdd, Int.reduceSub, Int.reduceMul]
          exact fin_ext EA rfl ⟨rfl, rfl⟩
        · have hb1 : (wv == -1) = false := by simpa using hm1
          rw [hb1]
          obtain ⟨wn, hwn⟩ := Int.eq_ofNat_of_zero_le (by omega : 0 ≤ wv)
          simp (disch := first | omega | (simp only [List.length_append, List.length_cons, List.length_nil]; omega)) only [z1, z2, z4, hm1, Bool.false_or, go_sem, ↓reduceIte, reduceCtorEq, Nat.reduceAdd, Nat.reduceSub, Nat.reducePow, Nat.reduceMul, Nat.reduceEqDiff, Nat.reduceLT, Nat.reduceLeDiff, Int.reduceToNat, Int.reduceLT, Int.reduceLE, Int.reduceEq, Int.reduceNeg, Int.reduceAdd, Int.reduceSub, Int.reduceMul]
          refine xfc_of (live21 _) ?_
          rintro d h' ⟨rfl, e⟩
          refine ⟨⟨[], by rw [e, List.append_nil]⟩, ?_⟩
          rw [e]
          have hca : (wv == (a : Int)) = decide (wv = (a : Int)) := rfl
          have hcb : (wv == (b : Int)) = decide (wv = (b : Int)) := rfl
          have fw := find_has (W := W) (n := wn) (i := iv) hi (by omega)
          rw [hwv, ← hwn] at fw
          have hbw : (wv == -1 || wv == wv) = true := by simp
          rw [hbw] at fw
          simp (disch := first | omega | (simp only [List.length_append, List.length_cons, List.length_nil]; omega)) only [z1, z2, z4, bB, f2, f3, hca, hcb, go_sem, ↓reduceIte, reduceCtorEq, Nat.reduceAdd, Nat.reduceSub, Nat.reducePow, Nat.reduceMul, Nat.reduceEqDiff, Nat.reduceLT, Nat.reduceLeDiff, Int.reduceToNat, Int.reduceLT, Int.reduceLE, Int.reduceEq, Int.reduceNeg, Int.reduceAdd, Int.reduceSub, Int.reduceMul]
          refine xfc_of (dfind_fc _ T W 255 tab (by omega) (by omega) wv (by omega) (by omega)) ?_
          rintro xw h7 ⟨E7, sw7⟩
          refine ⟨E7, ?_⟩
          simp (disch := first | omega | (simp only [List.length_append, List.length_cons, List.length_nil]; omega)) only [go_sem, ↓reduceIte, reduceCtorEq, Nat.reduceAdd, Nat.reduceSub, Nat.reducePow, Nat.reduceMul, Nat.reduceEqDiff, Nat.reduceLT, Nat.reduceLeDiff, Int.reduceToNat, Int.reduceLT, Int.reduceLE, Int.reduceEq, Int.reduceNeg, Int.reduceAdd, Int.reduceSub, Int.reduceMul]
          refine xfc_of (has_fc _ xw _ sw7 (rowP_words _ _ _) (iv : Int) (by omega) (by omega)) ?_
          rintro d h' ⟨rfl, e⟩
          refine ⟨⟨[], by rw [e, List.append_nil]⟩, ?_⟩
          rw [e, hasR_nat, fw]
          simp (disch := first | omega | (simp only [List.length_append, List.length_cons, List.length_nil]; omega)) only [go_sem, ↓reduceIte, reduceCtorEq, Nat.reduceAdd, Nat.reduceSub, Nat.reducePow, Nat.reduceMul, Nat.reduceEqDiff, Nat.reduceLT, Nat.reduceLeDiff, Int.reduceToNat, Int.reduceLT, Int.reduceLE, Int.reduceEq, Int.reduceNeg, Int.reduceAdd, Int.reduceSub, Int.reduceMul]
          exact fin_ext (EA.trans E7) rfl ⟨rfl, rfl⟩

theorem i16s_of {x : (Sh.sl (.int .i16)).T} {d : D} (ok : (Sh.sl (.int .i16)).ok x) (en : (Sh.sl (.int .i16)).EncV x d) : (x : List Int).length + 1 ≤ (Sh.sl (.int .i16)).vol x ∧ ∀ h, SlOf h 1 d ((x : List Int).map (D.int .i16)) (x : List Int).length := by
  refine ⟨?_, fun h => (sl_ints en h).1⟩
  have := sumBy_ge (f := (Sh.int .i16).vol) (fun _ => Nat.le_refl _) (x : List Int)
  simp only [Sh.vol]
  simp only [Sh.vol] at this
  omega
theorem dhas_law (h : Heap) (x0 : (Sh.sl (.int .i16)).T) (ok0 : (Sh.sl (.int .i16)).ok x0) (x1 : (Sh.arr 2 (.int .u8)).T) (ok1 : (Sh.arr 2 (.int .u8)).ok x1) (x2 : (Sh.int .u8).T) (ok2 : (Sh.int .u8).ok x2)
    (hv : (Sh.sl (.int .i16)).vol x0 + (Sh.arr 2 (.int .u8)).vol x1 + (Sh.int .u8).vol x2 ≤ 1048576)
    (D0 : D) (en0 : (Sh.sl (.int .i16)).EncV x0 D0) (D1 : D) (en1 : (Sh.arr 2 (.int .u8)).EncV x1 D1) (D2 : D) (en2 : (Sh.int .u8).EncV x2 D2) : FC Try.prog 4 [D0, D1, D2] h fun d h' => d = .bool true ∧ h' = h := by
  obtain ⟨h1, h2⟩ := i16s_of ok0 en0
  obtain ⟨r, hr, rfl⟩ := arr_u8 ok1 en1
  simp only [Sh.EncV] at en2
  subst en2
  obtain ⟨c, rfl, hc⟩ := ok_u8 ok2
  match r, hr with
  | [a, b], _ => exact dhas_fc h D0 x0 a.toNat b.toNat c (h2 h) (by omega) (fun x hx => ok_i16 (ok0 x hx)) a.toNat_lt b.toNat_lt hc
end Go.Proofs
