/-
  Own work. What must be whatever is asked, of layer 21; the law DirectFinds.
-/
import Derived.Test.YtjciahobhaaheaaR
namespace Go.Proofs
open Go Go.Ytjciahobhaaheaa
set_option linter.unusedVariables false
set_option linter.unusedSimpArgs false
set_option maxRecDepth 10000

/-! ### weighbridge/weighbridgelaw21.live, params 0 -/
def c11r0 : List AStm := [.op (some 0) none (.mv (.c (.bool false)))]
def c11r1 : List AStm := [.op (some 12) none (.bslice 1 (List.replicate 4 (.int .i64 0)) 4 [(0, 1, (.c (.int .i64 (-1)))), (1, 1, (.c (.int .i64 17))), (2, 1, (.c (.int .i64 6))), (3, 1, (.c (.int .i64 17)))]),
    .call (some 13) none (.c (.fn (.func 9) [] [])) [(.t 12), (.c (.int .i64 255))],
    .op (some 11) none (.mv (.t 13)),
    .op (some 14) none (.ext (.t 11) 0),
    .op (some 15) none (.ext (.t 11) 1),
    .op (some 2) none (.alloc [(.int .i64 0), (.int .i64 0)]),
    .op (some 1) none (.mv (.t 14)),
    .op none none (.store 2 (.t 2) (.t 15))]
def c11r2 : List AStm := [.op (some 17) none (.bslice 1 [(.int .i64 0), (.int .i64 0)] 2 [(0, 1, (.c (.int .i64 1))), (1, 1, (.c (.int .i64 256)))]),
    .call (some 18) none (.c (.fn (.func 9) [] [])) [(.t 17), (.c (.int .i64 255))],
    .op (some 16) none (.mv (.t 18)),
    .op (some 19) none (.ext (.t 16) 0),
    .op (some 20) none (.ext (.t 16) 1),
    .op (some 4) none (.alloc [(.int .i64 0), (.int .i64 0)]),
    .op (some 3) none (.mv (.t 19)),
    .op none none (.store 2 (.t 4) (.t 20))]
def c11r3 : List AStm := [.call (some 22) none (.c (.fn (.func 9) [] [])) [(.c .nils), (.c (.int .i64 65536))],
    .op (some 21) none (.mv (.t 22)),
    .op (some 23) none (.ext (.t 21) 0),
    .op (some 24) none (.ext (.t 21) 1),
    .op (some 6) none (.alloc [(.int .i64 0), (.int .i64 0)]),
    .op (some 5) none (.mv (.t 23)),
    .op none none (.store 2 (.t 6) (.t 24))]
def c11r4 : List AStm := [.op (some 25) none (.mv (.t 1)),
    .op (some 26) none (.isnil false 1 (.t 25))]
def c11r5 : List AStm := [.op (some 0) none (.mv (.c (.bool false)))]
def c11r6 : List AStm := [.op (some 27) none (.mv (.t 1)),
    .call (some 28) none (.c (.fn (.func 13) [] [])) [(.t 27), (.c (.int .i64 17))],
    .op (some 29) none (.mv (.t 1)),
    .call (some 30) none (.c (.fn (.func 13) [] [])) [(.t 29), (.c (.int .i64 1))],
    .op (some 31) none (.mv (.t 1)),
    .call (some 32) none (.c (.fn (.func 13) [] [])) [(.t 31), (.c (.int .i64 256))],
    .op (some 7) none (.mv (.t 28)),
    .op (some 8) none (.mv (.t 30)),
    .op (some 9) none (.mv (.t 32))]
def c11r7 : List AStm := [.op (some 10) none (.mv (.c .nilp))]
def c11r8 : List AStm := [.op (some 33) none (.load (some 2) (.t 2)),
    .op (some 34) none (.build [(.int .i64 0), (.int .i64 0)] []),
    .op (some 35) none (.eqa false [.ki, .ki] (.t 33) (.t 34)),
    .op (some 36) none (.mv (.t 35)),
    .op (some 37) (some (36, true)) (.load (some 2) (.t 4)),
    .op (some 38) (some (36, true)) (.build [(.int .i64 0), (.int .i64 0)] [(0, 1, (.c (.int .i64 1))), (1, 1, (.c (.int .i64 1)))]),
    .op (some 39) (some (36, true)) (.eqa false [.ki, .ki] (.t 37) (.t 38)),
    .op (some 40) none (.pick (.t 36) (.t 39) (.c (.bool false))),
    .op (some 41) none (.mv (.t 40)),
    .op (some 42) (some (41, true)) (.load (some 2) (.t 6)),
    .op (some 43) (some (41, true)) (.build [(.int .i64 0), (.int .i64 0)] [(0, 1, (.c (.int .i64 1)))]),
    .op (some 44) (some (41, true)) (.eqa false [.ki, .ki] (.t 42) (.t 43)),
    .op (some 45) none (.pick (.t 41) (.t 44) (.c (.bool false))),
    .op (some 46) none (.mv (.t 45)),
    .op (some 47) (some (46, true)) (.mv (.t 7)),
    .op (some 48) (some (46, true)) (.len false (.t 47)),
    .op (some 49) (some (46, true)) (.bin .eql (.t 48) (.c (.int .i64 1))),
    .op (some 50) none (.pick (.t 46) (.t 49) (.c (.bool false))),
    .op (some 51) none (.mv (.t 50)),
    .op (some 52) (some (51, true)) (.mv (.t 7)),
    .op (some 53) (some (51, true)) (.ixs 1 (.t 52) (.c (.int .i64 0))),
    .op (some 54) (some (51, true)) (.load none (.t 53)),
    .op (some 55) (some (51, true)) (.bin .eql (.t 54) (.c (.int .u64 11))),
    .op (some 56) none (.pick (.t 51) (.t 55) (.c (.bool false))),
    .op (some 57) none (.mv (.t 56)),
    .op (some 58) (some (57, true)) (.mv (.t 8)),
    .op (some 59) (some (57, true)) (.len false (.t 58)),
    .op (some 60) (some (57, true)) (.bin .eql (.t 59) (.c (.int .i64 1))),
    .op (some 61) none (.pick (.t 57) (.t 60) (.c (.bool false))),
    .op (some 62) none (.mv (.t 61)),
    .op (some 63) (some (62, true)) (.mv (.t 8)),
    .op (some 64) (some (62, true)) (.ixs 1 (.t 63) (.c (.int .i64 0))),
    .op (some 65) (some (62, true)) (.load none (.t 64)),
    .op (some 66) (some (62, true)) (.bin .eql (.t 65) (.c (.int .u64 1))),
    .op (some 67) none (.pick (.t 62) (.t 66) (.c (.bool false))),
    .op (some 68) none (.mv (.t 67)),
    .op (some 69) (some (68, true)) (.mv (.t 9)),
    .op (some 70) (some (68, true)) (.len false (.t 69)),
    .op (some 71) (some (68, true)) (.bin .eql (.t 70) (.c (.int .i64 1))),
    .op (some 72) none (.pick (.t 68) (.t 71) (.c (.bool false))),
    .op (some 73) none (.mv (.t 72)),
    .op (some 74) (some (73, true)) (.mv (.t 9)),
    .op (some 75) (some (73, true)) (.ixs 1 (.t 74) (.c (.int .i64 0))),
    .op (some 76) (some (73, true)) (.load none (.t 75)),
    .op (some 77) (some (73, true)) (.bin .eql (.t 76) (.c (.int .u64 0))),
    .op (some 78) none (.pick (.t 73) (.t 77) (.c (.bool false))),
    .op (some 79) none (.mv (.t 78)),
    .op (some 80) (some (79, true)) (.mv (.t 1)),
    .call (some 81) (some (79, true)) (.c (.fn (.func 15) [] [])) [(.t 80)],
    .op (some 82) (some (79, true)) (.bin .eql (.t 81) (.c (.int .i64 255))),
    .op (some 83) none (.pick (.t 79) (.t 82) (.c (.bool false))),
    .op (some 84) none (.mv (.t 83)),
    .op (some 85) (some (84, true)) (.mv (.t 1)),
    .call (some 86) (some (84, true)) (.c (.fn (.func 16) [] [])) [(.t 85)],
    .op (some 87) (some (84, true)) (.bin .eql (.t 86) (.c (.int .i64 254))),
    .op (some 88) none (.pick (.t 84) (.t 87) (.c (.bool false))),
    .op (some 89) none (.mv (.t 88)),
    .op (some 90) (some (89, true)) (.mv (.t 10)),
    .call (some 91) (some (89, true)) (.c (.fn (.func 13) [] [])) [(.t 90), (.c (.int .i64 0))],
    .op (some 92) (some (89, true)) (.len false (.t 91)),
    .op (some 93) (some (89, true)) (.bin .eql (.t 92) (.c (.int .i64 0))),
    .op (some 94) none (.pick (.t 89) (.t 93) (.c (.bool false))),
    .op (some 95) none (.mv (.t 94)),
    .op (some 96) (some (95, true)) (.mv (.t 10)),
    .call (some 97) (some (95, true)) (.c (.fn (.func 15) [] [])) [(.t 96)],
    .op (some 98) (some (95, true)) (.bin .eql (.t 97) (.c (.int .i64 0))),
    .op (some 99) none (.pick (.t 95) (.t 98) (.c (.bool false))),
    .op (some 100) none (.mv (.t 99)),
    .op (some 101) (some (100, true)) (.mv (.t 10)),
    .call (some 102) (some (100, true)) (.c (.fn (.func 16) [] [])) [(.t 101)],
    .op (some 103) (some (100, true)) (.bin .eql (.t 102) (.c (.int .i64 0))),
    .op (some 104) none (.pick (.t 100) (.t 103) (.c (.bool false))),
    .op (some 0) none (.mv (.t 104))]
def c11 : CF := ⟨.seq (.reg c11r0) (.seq (.reg c11r1) (.seq (.reg c11r2) (.seq (.reg c11r3) (.seq (.seq (.reg c11r4) (.cond (.t 26) (.seq (.reg c11r5) (.ret)) (.skip))) (.seq (.reg c11r6) (.seq (.reg c11r7) (.seq (.reg c11r8) (.ret)))))))), [.tmp 0], 105⟩
theorem cf11 : cfun Try.prog 11 = some c11 := by kernel_rfl

/-! ### weighbridge/weighbridgelaw21.DirectFinds, params 3 -/
def c3r0 : List AStm := [.op (some 6) none (.mv (.c (.bool false)))]
def c3r1 : List AStm := [.op (some 11) none (.mv (.t 0)),
    .op (some 12) none (.mv (.t 1)),
    .call (some 13) none (.c (.fn (.func 9) [] [])) [(.t 11), (.t 12)],
    .op (some 10) none (.mv (.t 13)),
    .op (some 14) none (.ext (.t 10) 0),
    .op (some 15) none (.ext (.t 10) 1),
    .op (some 8) none (.alloc [(.int .i64 0), (.int .i64 0)]),
    .op (some 7) none (.mv (.t 14)),
    .op none none (.store 2 (.t 8) (.t 15))]
def c3r2 : List AStm := [.op (some 16) none (.mv (.t 0)),
    .op (some 17) none (.mv (.t 1)),
    .call (some 18) none (.c (.fn (.func 10) [] [])) [(.t 16), (.t 17)],
    .op (some 9) none (.alloc [(.int .i64 0), (.int .i64 0)]),
    .op none none (.store 2 (.t 9) (.t 18))]
def c3r3 : List AStm := [.op (some 19) none (.load (some 2) (.t 8)),
    .op (some 20) none (.load (some 2) (.t 9)),
    .op (some 21) none (.eqa true [.ki, .ki] (.t 19) (.t 20)),
    .op (some 22) none (.mv (.t 21)),
    .op (some 23) (some (22, false)) (.mv (.t 7)),
    .op (some 24) (some (22, false)) (.isnil false 1 (.t 23)),
    .op (some 25) (some (22, false)) (.load (some 2) (.t 9)),
    .op (some 26) (some (22, false)) (.build [(.int .i64 0), (.int .i64 0)] []),
    .op (some 27) (some (22, false)) (.eqa true [.ki, .ki] (.t 25) (.t 26)),
    .op (some 28) (some (22, false)) (.eqb true (.t 24) (.t 27)),
    .op (some 29) none (.pick (.t 22) (.c (.bool true)) (.t 28))]
def c3r4 : List AStm := [.op (some 6) none (.mv (.c (.bool false)))]
def c3r5 : List AStm := [.op (some 30) none (.mv (.t 7)),
    .op (some 31) none (.isnil false 1 (.t 30))]
def c3r6 : List AStm := [.call (some 32) none (.c (.fn (.func 11) [] [])) [],
    .op (some 6) none (.mv (.t 32))]
def c3r7 : List AStm := [.call (some 33) none (.c (.fn (.func 11) [] [])) [],
    .op (some 34) none (.mv (.t 33)),
    .op (some 35) (some (34, true)) (.mv (.t 7)),
    .op (some 36) (some (34, true)) (.mv (.t 2)),
    .call (some 37) (some (34, true)) (.c (.fn (.func 13) [] [])) [(.t 35), (.t 36)],
    .op (some 38) (some (34, true)) (.mv (.t 0)),
    .op (some 39) (some (34, true)) (.mv (.t 1)),
    .op (some 40) (some (34, true)) (.mv (.t 2)),
    .call (some 41) (some (34, true)) (.c (.fn (.func 14) [] [])) [(.t 38), (.t 39), (.t 40)],
    .call (some 42) (some (34, true)) (.c (.fn (.func 12) [] [])) [(.t 37), (.t 41)],
    .op (some 43) none (.pick (.t 34) (.t 42) (.c (.bool false))),
    .op (some 44) none (.mv (.t 43)),
    .op (some 45) (some (44, true)) (.mv (.t 7)),
    .call (some 46) (some (44, true)) (.c (.fn (.func 15) [] [])) [(.t 45)],
    .op (some 47) (some (44, true)) (.mv (.t 1)),
    .op (some 48) (some (44, true)) (.bin .eql (.t 46) (.t 47)),
    .op (some 49) none (.pick (.t 44) (.t 48) (.c (.bool false))),
    .op (some 50) none (.mv (.t 49)),
    .op (some 51) (some (50, true)) (.mv (.t 1)),
    .op (some 52) (some (50, true)) (.bin .gtr (.t 51) (.c (.int .i64 1000))),
    .op (some 53) (some (50, true)) (.mv (.t 52)),
    .op (some 54) (some (53, false)) (.mv (.t 7)),
    .call (some 55) (some (53, false)) (.c (.fn (.func 16) [] [])) [(.t 54)],
    .op (some 56) (some (53, false)) (.mv (.t 0)),
    .op (some 57) (some (53, false)) (.mv (.t 1)),
    .call (some 58) (some (53, false)) (.c (.fn (.func 17) [] [])) [(.t 56), (.t 57)],
    .op (some 59) (some (53, false)) (.bin .eql (.t 55) (.t 58)),
    .op (some 60) (some (50, true)) (.pick (.t 53) (.c (.bool true)) (.t 59)),
    .op (some 61) none (.pick (.t 50) (.t 60) (.c (.bool false))),
    .op (some 6) none (.mv (.t 61))]
def c3 : CF := ⟨.seq (.reg c3r0) (.seq (.reg c3r1) (.seq (.reg c3r2) (.seq (.seq (.reg c3r3) (.cond (.t 29) (.seq (.reg c3r4) (.ret)) (.skip))) (.seq (.seq (.reg c3r5) (.cond (.t 31) (.seq (.reg c3r6) (.ret)) (.skip))) (.seq (.reg c3r7) (.ret)))))), [.tmp 6], 62⟩
theorem cf3 : cfun Try.prog 3 = some c3 := by kernel_rfl



theorem live21 (h : Heap) : FC Try.prog 11 [] h fun d h' => d = .bool true ∧ h' = h := by
  refine FC.goes cf11 ?_; simp only [c11]; simp only [List.length_cons, List.length_nil, Nat.reduceAdd, Nat.reduceSub, List.replicate_succ, List.replicate_zero, List.cons_append, List.nil_append]
  simp (disch := first | omega | (simp only [List.length_append, List.length_cons, List.length_nil]; omega)) only [c11r0, c11r1, c11r2, c11r3, c11r4, c11r5, c11r6, c11r7, c11r8, List.replicate_succ, List.replicate_zero, fillD, splice0, go_sem, ↓reduceIte, reduceCtorEq, Nat.reduceAdd, Nat.reduceSub, Nat.reducePow, Nat.reduceMul, Nat.reduceEqDiff, Nat.reduceLT, Nat.reduceLeDiff, Int.reduceToNat, Int.reduceLT, Int.reduceLE, Int.reduceEq, Int.reduceNeg, Int.reduceAdd, Int.reduceSub, Int.reduceMul]
  refine gfc_of (dnew_fc _ (.own h.length 4) [-1, 17, 6, 17] (own_of (last_get _ _) (by simp [ints])) (by simp) 255) ?_
  rintro d h1 ⟨E1, hr⟩
  rw [show chkF [-1, 17, 6, 17] 255 = (0, 0) by decide] at hr
  rcases hr with ⟨hc, _⟩ | ⟨_, _, _, _, T, rfl, tab⟩
  · exact absurd rfl hc
  simp (disch := first | omega | (simp only [List.length_append, List.length_cons, List.length_nil]; omega)) only [fillD, splice0, go_sem, ↓reduceIte, reduceCtorEq, Nat.reduceAdd, Nat.reduceSub, Nat.reducePow, Nat.reduceMul, Nat.reduceEqDiff, Nat.reduceLT, Nat.reduceLeDiff, Int.reduceToNat, Int.reduceLT, Int.reduceLE, Int.reduceEq, Int.reduceNeg, Int.reduceAdd, Int.reduceSub, Int.reduceMul]
  have F1 : Ext h h1 := (Ext.app (Ext.refl _) _).trans E1
  refine gfc_of (dnew_fc _ (.own (h1.length + 1) 2) [1, 256] (own_of (cs := ints [1, 256]) (by simp [ints]) (by simp [ints])) (by simp) 255) ?_
  rintro d h3 ⟨E3, hr⟩
  rw [show chkF [1, 256] 255 = (1, 1) by decide] at hr
  obtain rfl : d = .tup [.nilp, .agg [.int .i64 1, .int .i64 1]] := by
    rcases hr with ⟨_, hd⟩ | ⟨hc, _⟩
    · exact hd
    · cases hc
  have B2 := E3.get (r := h1.length) (b := .box [.int .i64 0, .int .i64 0]) (by simp)
  have F3 : Ext h1 h3 := (Ext.app (Ext.refl _) _).trans E3
  have tab := tab.ext F3
  simp (disch := first | omega | (simp only [List.length_append, List.length_cons, List.length_nil]; omega)) only [fillD, splice0, go_sem, ↓reduceIte, reduceCtorEq, Nat.reduceAdd, Nat.reduceSub, Nat.reducePow, Nat.reduceMul, Nat.reduceEqDiff, Nat.reduceLT, Nat.reduceLeDiff, Int.reduceToNat, Int.reduceLT, Int.reduceLE, Int.reduceEq, Int.reduceNeg, Int.reduceAdd, Int.reduceSub, Int.reduceMul]
  refine gfc_of (dnew_fc _ .nils [] (nils_of _ _) (by simp) 65536) ?_
  rintro d h5 ⟨E5, hr⟩
  rw [show chkF [] 65536 = (1, 0) by decide] at hr
  obtain rfl : d = .tup [.nilp, .agg [.int .i64 1, .int .i64 0]] := by
    rcases hr with ⟨_, hd⟩ | ⟨hc, _⟩
    · exact hd
    · cases hc
  have B4 := E5.get (last_get h3 (.box [.int .i64 1, .int .i64 1]))
  have F5 : Ext h3 (h5 ++ [.box [.int .i64 1, .int .i64 0]]) := ((Ext.app (Ext.refl _) _).trans E5).app _
  have B6 := last_get h5 (.box [.int .i64 1, .int .i64 0])
  have B4 := (Ext.app (Ext.refl h5) [.box [.int .i64 1, .int .i64 0]]).get B4
  have B2 := F5.get B2
  have tab := tab.ext F5
  have EH : Ext h (h5 ++ [.box [.int .i64 1, .int .i64 0]]) := F1.trans (F3.trans F5)
  obtain ⟨csT, bT⟩ : ∃ cs, (h5 ++ [.box [.int .i64 1, .int .i64 0]])[T]? = some (.box cs) := by
    obtain ⟨M, ra, ks, t, _⟩ := tab
    exact ⟨_, t.box⟩
  simp (disch := first | omega | (simp only [List.length_append, List.length_cons, List.length_nil]; omega)) only [bT, fillD, splice0, go_sem, ↓reduceIte, reduceCtorEq, Nat.reduceAdd, Nat.reduceSub, Nat.reducePow, Nat.reduceMul, Nat.reduceEqDiff, Nat.reduceLT, Nat.reduceLeDiff, Int.reduceToNat, Int.reduceLT, Int.reduceLE, Int.reduceEq, Int.reduceNeg, Int.reduceAdd, Int.reduceSub, Int.reduceMul]
  generalize h5 ++ [.box [.int .i64 1, .int .i64 0]] = h6 at *
  refine gfc_of (dfind_fc _ T [-1, 17, 6, 17] 255 tab (by simp) (by omega) 17 (by omega) (by omega)) ?_
  rintro xa h7 ⟨E7, sa⟩
  rw [show findR [-1, 17, 6, 17] 255 17 = [11] by decide] at sa
  have tab := tab.ext E7
  simp (disch := first | omega | (simp only [List.length_append, List.length_cons, List.length_nil]; omega)) only [go_sem, ↓reduceIte, reduceCtorEq, Nat.reduceAdd, Nat.reduceSub, Nat.reducePow, Nat.reduceMul, Nat.reduceEqDiff, Nat.reduceLT, Nat.reduceLeDiff, Int.reduceToNat, Int.reduceLT, Int.reduceLE, Int.reduceEq, Int.reduceNeg, Int.reduceAdd, Int.reduceSub, Int.reduceMul]
  refine gfc_of (dfind_fc _ T [-1, 17, 6, 17] 255 tab (by simp) (by omega) 1 (by omega) (by omega)) ?_
  rintro xb h8 ⟨E8, sb⟩
  rw [show findR [-1, 17, 6, 17] 255 1 = [1] by decide] at sb
  have tab := tab.ext E8
  simp (disch := first | omega | (simp only [List.length_append, List.length_cons, List.length_nil]; omega)) only [go_sem, ↓reduceIte, reduceCtorEq, Nat.reduceAdd, Nat.reduceSub, Nat.reducePow, Nat.reduceMul, Nat.reduceEqDiff, Nat.reduceLT, Nat.reduceLeDiff, Int.reduceToNat, Int.reduceLT, Int.reduceLE, Int.reduceEq, Int.reduceNeg, Int.reduceAdd, Int.reduceSub, Int.reduceMul]
  refine gfc_of (dfind_fc _ T [-1, 17, 6, 17] 255 tab (by simp) (by omega) 256 (by omega) (by omega)) ?_
  rintro xc h9 ⟨E9, sc⟩
  rw [show findR [-1, 17, 6, 17] 255 256 = [0] by decide] at sc
  have tab := tab.ext E9
  have F9 : Ext h6 h9 := E7.trans (E8.trans E9)
  have sa := sa.ext (E8.trans E9)
  have sb := sb.ext E9
  have B2 := F9.get B2
  have B4 := F9.get B4
  have B6 := F9.get B6
  have first : ∀ {x : D} {v : Nat}, RowOf h9 x [v] → lenD h9 x = some 1 ∧ x.sortOf = 2 ∧ ∃ p cs, elemAddr h9 1 x (.int .i64 0) = some p ∧ ptrCells h9 p = some cs ∧ cs[0]? = some (.int .u64 (v : Int)) := fun {x v} s => by
    obtain ⟨p, cs, e1, e2, e3⟩ := SlOf.elem s (k := .i64) (i := 0) (by omega) (by simp)
    refine ⟨SlOf.lend s, SlOf.sort s, p, cs, e1, e2, ?_⟩
    rw [e3 0 (by omega)]; rfl
  obtain ⟨a1, a2, pa, ca, a3, a4, a5⟩ := first sa
  obtain ⟨b1, b2, pb, cb, b3, b4, b5⟩ := first sb
  obtain ⟨c1, c2, pc, cc, c3, c4, c5⟩ := first sc
  simp (disch := first | omega | (simp only [List.length_append, List.length_cons, List.length_nil]; omega)) only [B2, B4, B6, a1, a2, a3, a4, a5, b1, b2, b3, b4, b5, c1, c2, c3, c4, c5, fillD, splice0, go_sem, ↓reduceIte, reduceCtorEq, Nat.reduceAdd, Nat.reduceSub, Nat.reducePow, Nat.reduceMul, Nat.reduceEqDiff, Nat.reduceLT, Nat.reduceLeDiff, Int.reduceToNat, Int.reduceLT, Int.reduceLE, Int.reduceEq, Int.reduceNeg, Int.reduceAdd, Int.reduceSub, Int.reduceMul]
  refine gfc_of (most_fc _ T _ _ tab) ?_
  rintro d h' ⟨rfl, e⟩
  rw [e]
  simp (disch := first | omega | (simp only [List.length_append, List.length_cons, List.length_nil]; omega)) only [go_sem, ↓reduceIte, reduceCtorEq, Nat.reduceAdd, Nat.reduceSub, Nat.reducePow, Nat.reduceMul, Nat.reduceEqDiff, Nat.reduceLT, Nat.reduceLeDiff, Int.reduceToNat, Int.reduceLT, Int.reduceLE, Int.reduceEq, Int.reduceNeg, Int.reduceAdd, Int.reduceSub, Int.reduceMul]
  refine gfc_of (free_fc _ T _ _ tab (by omega) (by omega) (by simp) (by decide)) ?_
  rintro d h' ⟨rfl, e⟩
  rw [e, show freeTo [-1, 17, 6, 17] ((255 : Int).toNat + 1) = 254 by decide]
  simp (disch := first | omega | (simp only [List.length_append, List.length_cons, List.length_nil]; omega)) only [go_sem, ↓reduceIte, reduceCtorEq, Nat.reduceAdd, Nat.reduceSub, Nat.reducePow, Nat.reduceMul, Nat.reduceEqDiff, Nat.reduceLT, Nat.reduceLeDiff, Int.reduceToNat, Int.reduceLT, Int.reduceLE, Int.reduceEq, Int.reduceNeg, Int.reduceAdd, Int.reduceSub, Int.reduceMul]
  refine gfc_of (dfindNil_fc _ 0) ?_
  rintro d h' ⟨rfl, e⟩
  rw [e]
  simp (disch := first | omega | (simp only [List.length_append, List.length_cons, List.length_nil]; omega)) only [go_sem, ↓reduceIte, reduceCtorEq, Nat.reduceAdd, Nat.reduceSub, Nat.reducePow, Nat.reduceMul, Nat.reduceEqDiff, Nat.reduceLT, Nat.reduceLeDiff, Int.reduceToNat, Int.reduceLT, Int.reduceLE, Int.reduceEq, Int.reduceNeg, Int.reduceAdd, Int.reduceSub, Int.reduceMul]
  refine gfc_of (mostNil_fc _) ?_
  rintro d h' ⟨rfl, e⟩
  rw [e]
  simp (disch := first | omega | (simp only [List.length_append, List.length_cons, List.length_nil]; omega)) only [go_sem, ↓reduceIte, reduceCtorEq, Nat.reduceAdd, Nat.reduceSub, Nat.reducePow, Nat.reduceMul, Nat.reduceEqDiff, Nat.reduceLT, Nat.reduceLeDiff, Int.reduceToNat, Int.reduceLT, Int.reduceLE, Int.reduceEq, Int.reduceNeg, Int.reduceAdd, Int.reduceSub, Int.reduceMul]
  refine gfc_of (freeNil_fc _) ?_
  rintro d h' ⟨rfl, e⟩
  rw [e]
  simp (disch := first | omega | (simp only [List.length_append, List.length_cons, List.length_nil]; omega)) only [go_sem, ↓reduceIte, reduceCtorEq, Nat.reduceAdd, Nat.reduceSub, Nat.reducePow, Nat.reduceMul, Nat.reduceEqDiff, Nat.reduceLT, Nat.reduceLeDiff, Int.reduceToNat, Int.reduceLT, Int.reduceLE, Int.reduceEq, Int.reduceNeg, Int.reduceAdd, Int.reduceSub, Int.reduceMul]
  exact fin_ext (EH.trans F9) rfl ⟨rfl, rfl⟩

theorem finds_fc (h : Heap) (lD : D) (l : List Int) (s : SlOf h 1 lD (ints l) l.length) (hlen : l.length ≤ 1048576) (most n : Int) (h0 : -9223372036854775808 ≤ most) (h1 : most < 9223372036854775808) (h2 : -9223372036854775808 ≤ n) (h3 : n < 9223372036854775808) :
    FC Try.prog 3 [lD, .int .i64 most, .int .i64 n] h fun d h' => d = .bool true ∧ h' = h := by
  refine FC.goes cf3 ?_; simp only [c3]; simp only [List.length_cons, List.length_nil, Nat.reduceAdd, Nat.reduceSub, List.replicate_succ, List.replicate_zero, List.cons_append, List.nil_append]
  simp (disch := first | omega | (simp only [List.length_append, List.length_cons, List.length_nil]; omega)) only [c3r0, c3r1, c3r2, c3r3, c3r4, c3r5, c3r6, c3r7, go_sem, ↓reduceIte, reduceCtorEq, Nat.reduceAdd, Nat.reduceSub, Nat.reducePow, Nat.reduceMul, Nat.reduceEqDiff, Nat.reduceLT, Nat.reduceLeDiff, Int.reduceToNat, Int.reduceLT, Int.reduceLE, Int.reduceEq, Int.reduceNeg, Int.reduceAdd, Int.reduceSub, Int.reduceMul]
  refine gfc_of (dnew_fc _ lD l s hlen most) ?_
  rintro d h1 ⟨E1, hr⟩
  have s := SlOf.ext s E1
  rcases hr with ⟨hc, rfl⟩ | ⟨hc, hm, hl, hin, T, rfl, tab⟩
  · obtain ⟨e, a, hea⟩ : ∃ e a, chkF l most = (e, a) := ⟨_, _, rfl⟩
    rw [hea] at hc ⊢
    simp only at hc ⊢
    simp (disch := first | omega | (simp only [List.length_append, List.length_cons, List.length_nil]; omega)) only [fillD, splice0, go_sem, ↓reduceIte, reduceCtorEq, Nat.reduceAdd, Nat.reduceSub, Nat.reducePow, Nat.reduceMul, Nat.reduceEqDiff, Nat.reduceLT, Nat.reduceLeDiff, Int.reduceToNat, Int.reduceLT, Int.reduceLE, Int.reduceEq, Int.reduceNeg, Int.reduceAdd, Int.reduceSub, Int.reduceMul]
    have s := SlOf.ext s (Ext.app (Ext.refl h1) [.box [.int .i64 e, .int .i64 a]])
    refine gfc_of (check_fc _ lD l s hlen most) ?_
    rintro d h' ⟨rfl, e'⟩
    rw [e', hea]
    have hbf : (e == 0 && a == 0) = false := by
      cases hb : (e == 0 && a == 0) with
      | false => rfl
      | true =>
        simp only [Bool.and_eq_true, beq_iff_eq] at hb
        exact absurd (by rw [hb.1, hb.2]) hc
    simp (disch := first | omega | (simp only [List.length_append, List.length_cons, List.length_nil]; omega)) only [fillD, splice0, hbf, go_sem, ↓reduceIte, reduceCtorEq, Nat.reduceAdd, Nat.reduceSub, Nat.reducePow, Nat.reduceMul, Nat.reduceEqDiff, Nat.reduceLT, Nat.reduceLeDiff, Int.reduceToNat, Int.reduceLT, Int.reduceLE, Int.reduceEq, Int.reduceNeg, Int.reduceAdd, Int.reduceSub, Int.reduceMul]
    refine gfc_of (live21 _) ?_
    rintro d h' ⟨rfl, e'⟩
    rw [e']
    simp (disch := first | omega | (simp only [List.length_append, List.length_cons, List.length_nil]; omega)) only [go_sem, ↓reduceIte, reduceCtorEq, Nat.reduceAdd, Nat.reduceSub, Nat.reducePow, Nat.reduceMul, Nat.reduceEqDiff, Nat.reduceLT, Nat.reduceLeDiff, Int.reduceToNat, Int.reduceLT, Int.reduceLE, Int.reduceEq, Int.reduceNeg, Int.reduceAdd, Int.reduceSub, Int.reduceMul]
    refine fin_ext ?_ rfl ⟨rfl, rfl⟩
    exact E1.app _
  · simp (disch := first | omega | (simp only [List.length_append, List.length_cons, List.length_nil]; omega)) only [fillD, splice0, go_sem, ↓reduceIte, reduceCtorEq, Nat.reduceAdd, Nat.reduceSub, Nat.reducePow, Nat.reduceMul, Nat.reduceEqDiff, Nat.reduceLT, Nat.reduceLeDiff, Int.reduceToNat, Int.reduceLT, Int.reduceLE, Int.reduceEq, Int.reduceNeg, Int.reduceAdd, Int.reduceSub, Int.reduceMul]
    have s := SlOf.ext s (Ext.app (Ext.refl h1) [.box [.int .i64 0, .int .i64 0]])
    have tab := tab.ext (Ext.app (Ext.refl h1) [.box [.int .i64 0, .int .i64 0]])
    refine gfc_of (check_fc _ lD l s hlen most) ?_
    rintro d h' ⟨rfl, e'⟩
    rw [e', hc]
    simp (disch := first | omega | (simp only [List.length_append, List.length_cons, List.length_nil]; omega)) only [fillD, splice0, go_sem, ↓reduceIte, reduceCtorEq, Nat.reduceAdd, Nat.reduceSub, Nat.reducePow, Nat.reduceMul, Nat.reduceEqDiff, Nat.reduceLT, Nat.reduceLeDiff, Int.reduceToNat, Int.reduceLT, Int.reduceLE, Int.reduceEq, Int.reduceNeg, Int.reduceAdd, Int.reduceSub, Int.reduceMul]
    have F2 : Ext (h1 ++ [.box [.int .i64 0, .int .i64 0]]) (h1 ++ [.box [.int .i64 0, .int .i64 0], .box [.int .i64 0, .int .i64 0]]) := ⟨[.box [.int .i64 0, .int .i64 0]], by simp⟩
    have s := SlOf.ext s F2
    have tab := tab.ext F2
    have EH : Ext h (h1 ++ [.box [.int .i64 0, .int .i64 0], .box [.int .i64 0, .int .i64 0]]) := E1.app _
    obtain ⟨csT, bT⟩ : ∃ cs, (h1 ++ [.box [.int .i64 0, .int .i64 0], .box [.int .i64 0, .int .i64 0]])[T]? = some (.box cs) := by
      obtain ⟨M, ra, ks, t, _⟩ := tab
      exact ⟨_, t.box⟩
    simp (disch := first | omega | (simp only [List.length_append, List.length_cons, List.length_nil]; omega)) only [bT, fillD, splice0, go_sem, ↓reduceIte, reduceCtorEq, Nat.reduceAdd, Nat.reduceSub, Nat.reducePow, Nat.reduceMul, Nat.reduceEqDiff, Nat.reduceLT, Nat.reduceLeDiff, Int.reduceToNat, Int.reduceLT, Int.reduceLE, Int.reduceEq, Int.reduceNeg, Int.reduceAdd, Int.reduceSub, Int.reduceMul]
    generalize h1 ++ [.box [.int .i64 0, .int .i64 0], .box [.int .i64 0, .int .i64 0]] = h4 at *
    refine gfc_of (live21 _) ?_
    rintro d h' ⟨rfl, e'⟩
    rw [e']
    simp (disch := first | omega | (simp only [List.length_append, List.length_cons, List.length_nil]; omega)) only [go_sem, ↓reduceIte, reduceCtorEq, Nat.reduceAdd, Nat.reduceSub, Nat.reducePow, Nat.reduceMul, Nat.reduceEqDiff, Nat.reduceLT, Nat.reduceLeDiff, Int.reduceToNat, Int.reduceLT, Int.reduceLE, Int.reduceEq, Int.reduceNeg, Int.reduceAdd, Int.reduceSub, Int.reduceMul]
    refine gfc_of (dfind_fc _ T l most tab hl (by omega) n h2 h3) ?_
    rintro xa h5 ⟨E5, sa⟩
    have s := SlOf.ext s E5
    have tab := tab.ext E5
    simp (disch := first | omega | (simp only [List.length_append, List.length_cons, List.length_nil]; omega)) only [go_sem, ↓reduceIte, reduceCtorEq, Nat.reduceAdd, Nat.reduceSub, Nat.reducePow, Nat.reduceMul, Nat.reduceEqDiff, Nat.reduceLT, Nat.reduceLeDiff, Int.reduceToNat, Int.reduceLT, Int.reduceLE, Int.reduceEq, Int.reduceNeg, Int.reduceAdd, Int.reduceSub, Int.reduceMul]
    refine gfc_of (findRef_fc _ lD l s hl most n) ?_
    rintro xb h6 ⟨E6, sb⟩
    have hfl : (findR l most n).length ≤ 1048576 := by rw [findR, rowP_length]; unfold qOf; omega
    simp (disch := first | omega | (simp only [List.length_append, List.length_cons, List.length_nil]; omega)) only [go_sem, ↓reduceIte, reduceCtorEq, Nat.reduceAdd, Nat.reduceSub, Nat.reducePow, Nat.reduceMul, Nat.reduceEqDiff, Nat.reduceLT, Nat.reduceLeDiff, Int.reduceToNat, Int.reduceLT, Int.reduceLE, Int.reduceEq, Int.reduceNeg, Int.reduceAdd, Int.reduceSub, Int.reduceMul]
    refine gfc_of (same_fc _ xa xb _ _ (sa.ext E6) sb hfl hfl) ?_
    rintro d h' ⟨rfl, e'⟩
    rw [e']
    have s := SlOf.ext s E6
    have tab := tab.ext E6
    simp (disch := first | omega | (simp only [List.length_append, List.length_cons, List.length_nil]; omega)) only [go_sem, ↓reduceIte, reduceCtorEq, Nat.reduceAdd, Nat.reduceSub, Nat.reducePow, Nat.reduceMul, Nat.reduceEqDiff, Nat.reduceLT, Nat.reduceLeDiff, Int.reduceToNat, Int.reduceLT, Int.reduceLE, Int.reduceEq, Int.reduceNeg, Int.reduceAdd, Int.reduceSub, Int.reduceMul]
    refine gfc_of (most_fc _ T l most tab) ?_
    rintro d h' ⟨rfl, e'⟩
    rw [e']
    by_cases hbig : 1000 < most
    · simp (disch := first | omega | (simp only [List.length_append, List.length_cons, List.length_nil]; omega)) only [hbig, go_sem, ↓reduceIte, reduceCtorEq, Nat.reduceAdd, Nat.reduceSub, Nat.reducePow, Nat.reduceMul, Nat.reduceEqDiff, Nat.reduceLT, Nat.reduceLeDiff, Int.reduceToNat, Int.reduceLT, Int.reduceLE, Int.reduceEq, Int.reduceNeg, Int.reduceAdd, Int.reduceSub, Int.reduceMul]
      exact fin_ext (EH.trans (E5.trans E6)) rfl ⟨rfl, rfl⟩
    · simp (disch := first | omega | (simp only [List.length_append, List.length_cons, List.length_nil]; omega)) only [hbig, go_sem, ↓reduceIte, reduceCtorEq, Nat.reduceAdd, Nat.reduceSub, Nat.reducePow, Nat.reduceMul, Nat.reduceEqDiff, Nat.reduceLT, Nat.reduceLeDiff, Int.reduceToNat, Int.reduceLT, Int.reduceLE, Int.reduceEq, Int.reduceNeg, Int.reduceAdd, Int.reduceSub, Int.reduceMul]
      refine gfc_of (free_fc _ T l most tab (by omega) (by omega) hl hin) ?_
      rintro d h' ⟨rfl, e'⟩
      rw [e']
      simp (disch := first | omega | (simp only [List.length_append, List.length_cons, List.length_nil]; omega)) only [go_sem, ↓reduceIte, reduceCtorEq, Nat.reduceAdd, Nat.reduceSub, Nat.reducePow, Nat.reduceMul, Nat.reduceEqDiff, Nat.reduceLT, Nat.reduceLeDiff, Int.reduceToNat, Int.reduceLT, Int.reduceLE, Int.reduceEq, Int.reduceNeg, Int.reduceAdd, Int.reduceSub, Int.reduceMul]
      refine gfc_of (freeRef_fc _ lD l s hl most (by omega) (by omega)) ?_
      rintro d h' ⟨rfl, e'⟩
      rw [e']
      simp (disch := first | omega | (simp only [List.length_append, List.length_cons, List.length_nil]; omega)) only [go_sem, ↓reduceIte, reduceCtorEq, Nat.reduceAdd, Nat.reduceSub, Nat.reducePow, Nat.reduceMul, Nat.reduceEqDiff, Nat.reduceLT, Nat.reduceLeDiff, Int.reduceToNat, Int.reduceLT, Int.reduceLE, Int.reduceEq, Int.reduceNeg, Int.reduceAdd, Int.reduceSub, Int.reduceMul]
      exact fin_ext (EH.trans (E5.trans E6)) rfl ⟨rfl, rfl⟩

theorem fits_of {x : (Sh.sl (.int .i64)).T} {d : D} (ok : (Sh.sl (.int .i64)).ok x) (en : (Sh.sl (.int .i64)).EncV x d) : (x : List Int).length + 1 ≤ (Sh.sl (.int .i64)).vol x ∧ ∀ h, SlOf h 1 d (ints (x : List Int)) (x : List Int).length := by
  refine ⟨?_, fun h => (sl_ints en h).1⟩
  have := sumBy_ge (f := (Sh.int .i64).vol) (fun _ => Nat.le_refl _) (x : List Int)
  simp only [Sh.vol]
  simp only [Sh.vol] at this
  omega
theorem finds_law (h : Heap) (x0 : (Sh.sl (.int .i64)).T) (ok0 : (Sh.sl (.int .i64)).ok x0) (x1 : (Sh.int .i64).T) (ok1 : (Sh.int .i64).ok x1) (x2 : (Sh.int .i64).T) (ok2 : (Sh.int .i64).ok x2)
    (hv : (Sh.sl (.int .i64)).vol x0 + (Sh.int .i64).vol x1 + (Sh.int .i64).vol x2 ≤ 1048576)
    (D0 : D) (en0 : (Sh.sl (.int .i64)).EncV x0 D0) (D1 : D) (en1 : (Sh.int .i64).EncV x1 D1) (D2 : D) (en2 : (Sh.int .i64).EncV x2 D2) : FC Try.prog 3 [D0, D1, D2] h fun d h' => d = .bool true ∧ h' = h := by
  simp only [Sh.EncV] at en1 en2
  subst en1
  subst en2
  obtain ⟨h1, h2⟩ := fits_of ok0 en0
  have g1 := ok_i64 ok1
  have g2 := ok_i64 ok2
  exact finds_fc h D0 x0 (h2 h) (by omega) x1 x2 g1.1 (by omega) g2.1 (by omega)
end Go.Proofs
