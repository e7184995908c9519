/-
  Own work. Spans, rules and keys as data; the walks of span.is, Check, All, Has, Meet and of rule.isClass, asked, Check, Matches, Any.
-/
import Derived.Test.YtodlpcoffmnmbaaDoorPh
import Derived.Test.YtodlpcoffmnmbaaDoorSa
namespace Go.Proofs
open Go Go.YtodlpcoffmnmbaaDoor
set_option linter.unusedVariables false
set_option linter.unusedSimpArgs false
set_option linter.unusedSectionVars false
set_option maxRecDepth 10000

/-! ### weighbridge/rule.isClass, params 1 -/
def c50r0 : List AStm := [.op (some 2) none (.mv (.c (.bool false)))]
def c50r1 : List AStm := [.op (some 3) none (.mv (.t 0)),
    .op (some 4) none (.bin .geq (.t 3) (.c (.int .i64 0))),
    .op (some 5) none (.mv (.t 4)),
    .op (some 6) (some (5, true)) (.mv (.t 0)),
    .op (some 7) (some (5, true)) (.bin .lss (.t 6) (.c (.int .i64 16))),
    .op (some 8) none (.pick (.t 5) (.t 7) (.c (.bool false))),
    .op (some 2) none (.mv (.t 8))]
def c50 : CF := ⟨.seq (.reg c50r0) (.seq (.reg c50r1) (.ret)), [.tmp 2], 9⟩
theorem cf50 : cfun Tryd.prog 50 = some c50 := by kernel_rfl

/-! ### weighbridge/rule.Check, params 1 -/
def c35r0 : List AStm := [.op (some 1) none (.box (.t 0)),
    .op (some 2) none (.mv (.c (.int .i64 0)))]
def c35r1 : List AStm := [.op (some 9) none (.faddr 0 (.t 1)),
    .op (some 10) none (.load (some 18) (.t 9)),
    .op (some 11) none (.faddr 18 (.t 1)),
    .op (some 12) none (.load (some 18) (.t 11)),
    .op (some 13) none (.build [(.int .i64 0), (.int .u8 0), (.int .u8 0), (.int .u8 0), (.int .u8 0), (.int .u8 0), (.int .u8 0), (.int .u8 0), (.int .u8 0), (.int .u8 0), (.int .u8 0), (.int .u8 0), (.int .u8 0), (.int .u8 0), (.int .u8 0), (.int .u8 0), (.int .u8 0), (.int .i64 0), (.int .i64 0), (.int .u8 0), (.int .u8 0), (.int .u8 0), (.int .u8 0), (.int .u8 0), (.int .u8 0), (.int .u8 0), (.int .u8 0), (.int .u8 0), (.int .u8 0), (.int .u8 0), (.int .u8 0), (.int .u8 0), (.int .u8 0), (.int .u8 0), (.int .u8 0), (.int .i64 0)] [(0, 18, (.t 10)), (18, 18, (.t 12))]),
    .op (some 14) none (.mv (.c (.int .i64 0)))]
def c35r2 : List AStm := [.op (some 15) none (.bin .lss (.t 14) (.c (.int .i64 2)))]
def c35r3 : List AStm := [.op (some 16) none (.ixv 2 18 (some 18) (.t 13) (.t 14)),
    .op (some 4) none (.alloc [(.int .i64 0), (.int .u8 0), (.int .u8 0), (.int .u8 0), (.int .u8 0), (.int .u8 0), (.int .u8 0), (.int .u8 0), (.int .u8 0), (.int .u8 0), (.int .u8 0), (.int .u8 0), (.int .u8 0), (.int .u8 0), (.int .u8 0), (.int .u8 0), (.int .u8 0), (.int .i64 0)]),
    .op none none (.store 18 (.t 4) (.t 16))]
def c35r4 : List AStm := [.op (some 17) none (.load (some 18) (.t 4)),
    .call (some 18) none (.c (.fn (.func 48) [] [])) [(.t 17)],
    .op (some 5) none (.mv (.t 18))]
def c35r5 : List AStm := [.op (some 19) none (.mv (.t 5)),
    .op (some 20) none (.bin .neq (.t 19) (.c (.int .i64 0)))]
def c35r6 : List AStm := [.op (some 21) none (.mv (.t 5)),
    .op (some 2) none (.mv (.t 21))]
def c35r7 : List AStm := [.op (some 22) none (.bin .add (.t 14) (.c (.int .i64 1))),
    .op (some 14) none (.mv (.t 22))]
def c35l8 : AC := .seq (.reg c35r2) (.seq (.cond (.t 15) (.skip) (.exit 0)) (.seq (.block 1 (.seq (.reg c35r3) (.seq (.reg c35r4) (.seq (.reg c35r5) (.cond (.t 20) (.seq (.reg c35r6) (.ret)) (.skip)))))) (.reg c35r7)))
def c35r9 : List AStm := [.op (some 23) none (.faddr 0 (.t 1)),
    .op (some 24) none (.faddr 0 (.t 23)),
    .op (some 25) none (.load none (.t 24)),
    .op (some 26) none (.faddr 18 (.t 1)),
    .op (some 27) none (.faddr 0 (.t 26)),
    .op (some 28) none (.load none (.t 27)),
    .op (some 29) none (.bin .neq (.t 25) (.t 28))]
def c35r10 : List AStm := [.op (some 2) none (.mv (.c (.int .i64 4)))]
def c35r11 : List AStm := [.op (some 30) none (.faddr 36 (.t 1)),
    .op (some 31) none (.load (some 2) (.t 30)),
    .op (some 32) none (.faddr 38 (.t 1)),
    .op (some 33) none (.load (some 2) (.t 32)),
    .op (some 34) none (.build (List.replicate 4 (.int .i64 0)) [(0, 2, (.t 31)), (2, 2, (.t 33))]),
    .op (some 35) none (.mv (.c (.int .i64 0)))]
def c35r12 : List AStm := [.op (some 36) none (.bin .lss (.t 35) (.c (.int .i64 2)))]
def c35r13 : List AStm := [.op (some 37) none (.ixv 2 2 (some 2) (.t 34) (.t 35)),
    .op (some 7) none (.alloc [(.int .i64 0), (.int .i64 0)]),
    .op none none (.store 2 (.t 7) (.t 37))]
def c35r14 : List AStm := [.op (some 38) none (.load (some 2) (.t 7)),
    .call (some 39) none (.c (.fn (.func 49) [] [])) [(.t 38)],
    .op (some 8) none (.mv (.t 39))]
def c35r15 : List AStm := [.op (some 40) none (.mv (.t 8)),
    .op (some 41) none (.bin .neq (.t 40) (.c (.int .i64 0)))]
def c35r16 : List AStm := [.op (some 42) none (.mv (.t 8)),
    .op (some 2) none (.mv (.t 42))]
def c35r17 : List AStm := [.op (some 43) none (.bin .add (.t 35) (.c (.int .i64 1))),
    .op (some 35) none (.mv (.t 43))]
def c35l18 : AC := .seq (.reg c35r12) (.seq (.cond (.t 36) (.skip) (.exit 2)) (.seq (.block 3 (.seq (.reg c35r13) (.seq (.reg c35r14) (.seq (.reg c35r15) (.cond (.t 41) (.seq (.reg c35r16) (.ret)) (.skip)))))) (.reg c35r17)))
def c35r19 : List AStm := [.op (some 45) none (.faddr 40 (.t 1)),
    .op (some 46) none (.load none (.t 45)),
    .op (some 47) none (.bin .lss (.t 46) (.c (.int .i64 (-1)))),
    .op (some 48) none (.mv (.t 47)),
    .op (some 49) (some (48, false)) (.faddr 40 (.t 1)),
    .op (some 50) (some (48, false)) (.load none (.t 49)),
    .op (some 51) (some (48, false)) (.bin .gtr (.t 50) (.c (.int .i64 255))),
    .op (some 52) none (.pick (.t 48) (.c (.bool true)) (.t 51)),
    .op (some 44) none (.mv (.t 52))]
def c35r20 : List AStm := [.op (some 2) none (.mv (.c (.int .i64 1)))]
def c35r21 : List AStm := [.op (some 54) none (.faddr 41 (.t 1)),
    .op (some 55) none (.load none (.t 54)),
    .op (some 56) none (.bin .lss (.t 55) (.c (.int .i64 (-1)))),
    .op (some 57) none (.mv (.t 56)),
    .op (some 58) (some (57, false)) (.faddr 41 (.t 1)),
    .op (some 59) (some (57, false)) (.load none (.t 58)),
    .op (some 60) (some (57, false)) (.bin .gtr (.t 59) (.c (.int .i64 63))),
    .op (some 61) none (.pick (.t 57) (.c (.bool true)) (.t 60)),
    .op (some 53) none (.mv (.t 61))]
def c35r22 : List AStm := [.op (some 2) none (.mv (.c (.int .i64 14)))]
def c35r23 : List AStm := [.op (some 63) none (.faddr 42 (.t 1)),
    .op (some 64) none (.load none (.t 63)),
    .call (some 65) none (.c (.fn (.func 50) [] [])) [(.t 64)],
    .op (some 66) none (.un .not (.t 65)),
    .op (some 62) none (.mv (.t 66))]
def c35r24 : List AStm := [.op (some 2) none (.mv (.c (.int .i64 11)))]
def c35r25 : List AStm := [.op (some 2) none (.mv (.c (.int .i64 0)))]
def c35 : CF := ⟨.seq (.reg c35r0) (.seq (.seq (.reg c35r1) (.block 0 (.loop c35l8))) (.seq (.seq (.reg c35r9) (.cond (.t 29) (.seq (.reg c35r10) (.ret)) (.skip))) (.seq (.seq (.reg c35r11) (.block 2 (.loop c35l18))) (.seq (.block 4 (.seq (.reg c35r19) (.cond (.t 44) (.seq (.reg c35r20) (.ret)) (.seq (.reg c35r21) (.cond (.t 53) (.seq (.reg c35r22) (.ret)) (.seq (.reg c35r23) (.cond (.t 62) (.seq (.reg c35r24) (.ret)) (.skip)))))))) (.seq (.reg c35r25) (.ret)))))), [.tmp 2], 67⟩
theorem cf35 : cfun Tryd.prog 35 = some c35 := by kernel_rfl

/-! ### weighbridge/prefix.All, params 1 -/
def c39r0 : List AStm := [.op (some 2) none (.alloc [(.int .i64 0), (.int .u8 0), (.int .u8 0), (.int .u8 0), (.int .u8 0), (.int .u8 0), (.int .u8 0), (.int .u8 0), (.int .u8 0), (.int .u8 0), (.int .u8 0), (.int .u8 0), (.int .u8 0), (.int .u8 0), (.int .u8 0), (.int .u8 0), (.int .u8 0), (.int .i64 0)])]
def c39r1 : List AStm := [.op (some 3) none (.mv (.t 0)),
    .op (some 4) none (.build [(.int .i64 0), (.int .u8 0), (.int .u8 0), (.int .u8 0), (.int .u8 0), (.int .u8 0), (.int .u8 0), (.int .u8 0), (.int .u8 0), (.int .u8 0), (.int .u8 0), (.int .u8 0), (.int .u8 0), (.int .u8 0), (.int .u8 0), (.int .u8 0), (.int .u8 0), (.int .i64 0)] [(0, 1, (.t 3))]),
    .op none none (.store 18 (.t 2) (.t 4))]
def c39 : CF := ⟨.seq (.reg c39r0) (.seq (.reg c39r1) (.ret)), [.cell 2 (some 18)], 5⟩
theorem cf39 : cfun Tryd.prog 39 = some c39 := by kernel_rfl

/-! ### weighbridge/rule.Any, params 2 -/
def c20r0 : List AStm := [.op (some 4) none (.alloc [(.int .i64 0), (.int .u8 0), (.int .u8 0), (.int .u8 0), (.int .u8 0), (.int .u8 0), (.int .u8 0), (.int .u8 0), (.int .u8 0), (.int .u8 0), (.int .u8 0), (.int .u8 0), (.int .u8 0), (.int .u8 0), (.int .u8 0), (.int .u8 0), (.int .u8 0), (.int .i64 0), (.int .i64 0), (.int .u8 0), (.int .u8 0), (.int .u8 0), (.int .u8 0), (.int .u8 0), (.int .u8 0), (.int .u8 0), (.int .u8 0), (.int .u8 0), (.int .u8 0), (.int .u8 0), (.int .u8 0), (.int .u8 0), (.int .u8 0), (.int .u8 0), (.int .u8 0), (.int .i64 0), (.int .i64 0), (.int .i64 0), (.int .i64 0), (.int .i64 0), (.int .i64 0), (.int .i64 0), (.int .i64 0)])]
def c20r1 : List AStm := [.op (some 5) none (.mv (.t 0)),
    .call (some 6) none (.c (.fn (.func 39) [] [])) [(.t 5)],
    .op (some 7) none (.mv (.t 0)),
    .call (some 8) none (.c (.fn (.func 39) [] [])) [(.t 7)],
    .call (some 9) none (.c (.fn (.func 29) [] [])) [],
    .call (some 10) none (.c (.fn (.func 29) [] [])) [],
    .op (some 11) none (.mv (.t 1)),
    .op (some 12) none (.build [(.int .i64 0), (.int .u8 0), (.int .u8 0), (.int .u8 0), (.int .u8 0), (.int .u8 0), (.int .u8 0), (.int .u8 0), (.int .u8 0), (.int .u8 0), (.int .u8 0), (.int .u8 0), (.int .u8 0), (.int .u8 0), (.int .u8 0), (.int .u8 0), (.int .u8 0), (.int .i64 0), (.int .i64 0), (.int .u8 0), (.int .u8 0), (.int .u8 0), (.int .u8 0), (.int .u8 0), (.int .u8 0), (.int .u8 0), (.int .u8 0), (.int .u8 0), (.int .u8 0), (.int .u8 0), (.int .u8 0), (.int .u8 0), (.int .u8 0), (.int .u8 0), (.int .u8 0), (.int .i64 0), (.int .i64 0), (.int .i64 0), (.int .i64 0), (.int .i64 0), (.int .i64 0), (.int .i64 0), (.int .i64 0)] [(0, 18, (.t 6)), (18, 18, (.t 8)), (36, 2, (.t 9)), (38, 2, (.t 10)), (40, 1, (.c (.int .i64 (-1)))), (41, 1, (.c (.int .i64 (-1)))), (42, 1, (.t 11))]),
    .op none none (.store 43 (.t 4) (.t 12))]
def c20 : CF := ⟨.seq (.reg c20r0) (.seq (.reg c20r1) (.ret)), [.cell 4 (some 43)], 13⟩
theorem cf20 : cfun Tryd.prog 20 = some c20 := by kernel_rfl



/-! ### Rules -/
structure Ru where
  sv : Int
  sa : List UInt8
  sn : Int
  dv : Int
  da : List UInt8
  dn : Int
  slo : Int
  shi : Int
  dlo : Int
  dhi : Int
  proto : Int
  dscp : Int
  cls : Int
structure Ru.Ok (r : Ru) : Prop where
  s : r.sa.length = 16
  d : r.da.length = 16
def ruT (r : Ru) : List D := [.int .i64 r.slo, .int .i64 r.shi, .int .i64 r.dlo, .int .i64 r.dhi, .int .i64 r.proto, .int .i64 r.dscp, .int .i64 r.cls]
def ru (r : Ru) : List D := pc r.sv r.sa r.sn ++ (pc r.dv r.da r.dn ++ ruT r)
section
variable {r : Ru} (ok : r.Ok)
include ok
theorem ru_len : (ru r).length = 43 := by simp [ru, ruT, pc_len ok.s, pc_len ok.d]
theorem ru_one : (ru r).all D.one = true := by
  simp only [ru, List.all_append, pc_one, ruT]; rfl
theorem ru_take : (ru r).take 43 = ru r := List.take_of_length_le (by rw [ru_len ok]; omega)
theorem ru_0 : (ru r)[0]? = some (.int .i64 r.sv) := rfl
theorem ru_s : (ru r).take 18 = pc r.sv r.sa r.sn := by rw [ru, List.take_append_of_le_length (by rw [pc_len ok.s]; omega), pc_take ok.s]
theorem ru_d18 : (ru r).drop 18 = pc r.dv r.da r.dn ++ ruT r := by rw [ru, List.drop_append_of_le_length (by rw [pc_len ok.s]; omega), List.drop_of_length_le (by rw [pc_len ok.s]; omega), List.nil_append]
theorem ru_d : ((ru r).drop 18).take 18 = pc r.dv r.da r.dn := by rw [ru_d18 ok, List.take_append_of_le_length (by rw [pc_len ok.d]; omega), pc_take ok.d]
theorem ru_18 : ((ru r).drop 18)[0]? = some (.int .i64 r.dv) := by rw [ru_d18 ok]; rfl
theorem ru_l18 : ((ru r).drop 18).length = 25 := by rw [List.length_drop, ru_len ok]
theorem ru_d36 : (ru r).drop 36 = ruT r := by
  rw [show 36 = 18 + 18 from rfl, ← List.drop_drop, ru_d18 ok, List.drop_append_of_le_length (by rw [pc_len ok.d]; omega), List.drop_of_length_le (by rw [pc_len ok.d]; omega), List.nil_append]
theorem ru_d38 : (ru r).drop 38 = (ruT r).drop 2 := by rw [show 38 = 36 + 2 from rfl, ← List.drop_drop, ru_d36 ok]
theorem ru_d40 : (ru r).drop 40 = (ruT r).drop 4 := by rw [show 40 = 36 + 4 from rfl, ← List.drop_drop, ru_d36 ok]
theorem ru_d41 : (ru r).drop 41 = (ruT r).drop 5 := by rw [show 41 = 36 + 5 from rfl, ← List.drop_drop, ru_d36 ok]
theorem ru_d42 : (ru r).drop 42 = (ruT r).drop 6 := by rw [show 42 = 36 + 6 from rfl, ← List.drop_drop, ru_d36 ok]
theorem ru_under (k : Nat) : underL k (ru r) = true := by simp [ru, ruT, underL, underD, under_app, pc_under]
end
def ruChk (r : Ru) : Int :=
  if ¬ checkF r.sv r.sa r.sn = 0 then checkF r.sv r.sa r.sn else if ¬ checkF r.dv r.da r.dn = 0 then checkF r.dv r.da r.dn else if ¬ r.sv = r.dv then 4 else
  if ¬ spanChk r.slo r.shi = 0 then spanChk r.slo r.shi else if ¬ spanChk r.dlo r.dhi = 0 then spanChk r.dlo r.dhi else
  if r.proto < -1 ∨ 255 < r.proto then 1 else if r.dscp < -1 ∨ 63 < r.dscp then 14 else if r.cls < 0 ∨ 16 ≤ r.cls then 11 else 0

theorem iscls_fc (h : Heap) (n : Int) : FC Tryd.prog 50 [.int .i64 n] h fun d h' => d = .bool (decide (0 ≤ n) && decide (n < 16)) ∧ h' = h := by
  refine FC.goes cf50 ?_; simp only [c50]; simp only [List.length_cons, List.length_nil, Nat.reduceAdd, Nat.reduceSub, List.replicate_succ, List.replicate_zero, List.cons_append, List.nil_append]
  by_cases h0 : 0 ≤ n
  · simp (disch := first | omega | (simp only [List.length_append, List.length_cons, List.length_nil]; omega)) only [c50r0, c50r1, h0, go_sem, fill_c, ↓reduceIte, reduceCtorEq, Nat.reduceAdd, Nat.reduceSub, Nat.reducePow, Nat.reduceMul, Nat.reduceEqDiff, Nat.reduceLT, Nat.reduceLeDiff, Int.reduceToNat, Int.reduceLT, Int.reduceLE, Int.reduceEq, Int.reduceNeg, Int.reduceAdd, Int.reduceSub, Int.reduceMul]
    exact FinOk.all ⟨rfl, rfl⟩
  · simp (disch := first | omega | (simp only [List.length_append, List.length_cons, List.length_nil]; omega)) only [c50r0, c50r1, h0, Bool.false_and, go_sem, fill_c, ↓reduceIte, reduceCtorEq, Nat.reduceAdd, Nat.reduceSub, Nat.reducePow, Nat.reduceMul, Nat.reduceEqDiff, Nat.reduceLT, Nat.reduceLeDiff, Int.reduceToNat, Int.reduceLT, Int.reduceLE, Int.reduceEq, Int.reduceNeg, Int.reduceAdd, Int.reduceSub, Int.reduceMul]
    exact FinOk.all ⟨rfl, rfl⟩
/-- Two prefixes beside one another. -/
theorem two_fill {v n w m : Int} {a b : List UInt8} (ha : a.length = 16) (hb : b.length = 16) :
    fillD (pc 0 (zeros 16) 0 ++ pc 0 (zeros 16) 0) [(0, 18, .agg (pc v a n)), (18, 18, .agg (pc w b m))] = some (pc v a n ++ pc w b m) := by
  have hz := pc_len (v := 0) (n := 0) (zeros_len 16)
  have l1 := pc_len (v := v) (n := n) ha
  have l2 := pc_len (v := w) (n := m) hb
  rw [fillD, if_pos ⟨by simpa [laid] using pc_one, by simpa [vcells] using l1, by rw [List.length_append]; omega⟩]
  have e1 : splice (pc 0 (zeros 16) 0 ++ pc 0 (zeros 16) 0) 0 (vcells (.agg (pc v a n))) = pc v a n ++ pc 0 (zeros 16) 0 := by
    rw [splice_eq _ _ _ (by simp only [vcells, List.length_append]; omega)]
    simp only [vcells, l1, List.take_zero, List.nil_append, Nat.zero_add]
    rw [List.drop_append_of_le_length (by omega), List.drop_of_length_le (by omega), List.nil_append]
  rw [e1, fillD, if_pos ⟨by simpa [laid] using pc_one, by simpa [vcells] using l2, by rw [List.length_append]; omega⟩]
  have e2 : splice (pc v a n ++ pc 0 (zeros 16) 0) 18 (vcells (.agg (pc w b m))) = pc v a n ++ pc w b m := by
    rw [splice_eq _ _ _ (by simp only [vcells, List.length_append]; omega)]
    simp only [vcells, l2]
    rw [List.take_append_of_le_length (by omega), List.take_of_length_le (by omega), List.drop_of_length_le (by simp only [List.length_append]; omega), List.append_nil]
  rw [e2]; rfl

theorem four_fill {a b c d : Int} : fillD (List.replicate 4 (.int .i64 0)) [(0, 2, .agg [.int .i64 a, .int .i64 b]), (2, 2, .agg [.int .i64 c, .int .i64 d])] = some [.int .i64 a, .int .i64 b, .int .i64 c, .int .i64 d] := rfl
theorem rcheckP_fc (h : Heap) (r : Ru) (ok : r.Ok) : FC Tryd.prog 35 [.agg (ru r)] h fun d h' => d = .int .i64 (ruChk r) ∧ h' = h := by
  have ec := pcheck_fc
  simp only [prefD_pc] at ec
  have os := ok.s
  have od := ok.d
  have z1 := zeros_len 16
  have zz : pc 0 (zeros 16) 0 ++ pc 0 (zeros 16) 0 = [.int .i64 0, .int .u8 0, .int .u8 0, .int .u8 0, .int .u8 0, .int .u8 0, .int .u8 0, .int .u8 0, .int .u8 0, .int .u8 0, .int .u8 0, .int .u8 0, .int .u8 0, .int .u8 0, .int .u8 0, .int .u8 0, .int .u8 0, .int .i64 0,
    .int .i64 0, .int .u8 0, .int .u8 0, .int .u8 0, .int .u8 0, .int .u8 0, .int .u8 0, .int .u8 0, .int .u8 0, .int .u8 0, .int .u8 0, .int .u8 0, .int .u8 0, .int .u8 0, .int .u8 0, .int .u8 0, .int .u8 0, .int .i64 0] := rfl
  have ov1 := pc_over (v := r.sv) (n := r.sn) (w := 0) (m := 0) z1 ok.s
  have ov2 := pc_over (v := r.dv) (n := r.dn) (w := 0) (m := 0) z1 ok.d
  rw [pc_zero] at ov1 ov2
  have l1 := pc_len (v := r.sv) (n := r.sn) ok.s
  have l2 := pc_len (v := r.dv) (n := r.dn) ok.d
  have ll : (pc r.sv r.sa r.sn ++ pc r.dv r.da r.dn).length = 36 := by rw [List.length_append]; omega
  have t1 : List.take 18 (pc r.sv r.sa r.sn ++ pc r.dv r.da r.dn) = pc r.sv r.sa r.sn := by rw [List.take_append_of_le_length (by omega), pc_take ok.s]
  have t2 : List.drop 18 (pc r.sv r.sa r.sn ++ pc r.dv r.da r.dn) = pc r.dv r.da r.dn := by rw [List.drop_append_of_le_length (by omega), List.drop_of_length_le (by omega), List.nil_append]
  refine FC.goes cf35 ?_; simp only [c35]; simp only [List.length_cons, List.length_nil, Nat.reduceAdd, Nat.reduceSub, List.replicate_succ, List.replicate_zero, List.cons_append, List.nil_append]
  simp only [c35r0, c35r1, ← zz]
  simp (disch := first | omega | (simp only [List.length_append, List.length_cons, List.length_nil]; omega)) only [ru_len, ru_one, ok, ru_s, ru_d, ru_l18, two_fill, go_sem, ↓reduceIte, reduceCtorEq, Nat.reduceAdd, Nat.reduceSub, Nat.reducePow, Nat.reduceMul, Nat.reduceEqDiff, Nat.reduceLT, Nat.reduceLeDiff, Int.reduceToNat, Int.reduceLT, Int.reduceLE, Int.reduceEq, Int.reduceNeg, Int.reduceAdd, Int.reduceSub, Int.reduceMul]
  refine loop_to 2 (fun k st => (0 < k → checkF r.sv r.sa r.sn = 0) ∧ (1 < k → checkF r.dv r.da r.dn = 0) ∧ ∃ (L : Heap) (j : Nat → D), st = ⟨(j 0 :: .ref h.length 0 :: .int .i64 0 :: j 3 :: j 4 :: j 5 :: j 6 :: j 7 :: j 8 :: j 9 :: j 10 :: j 11 :: j 12 :: .agg (pc r.sv r.sa r.sn ++ pc r.dv r.da r.dn) :: .int .i64 (k : Int) :: j 15 :: j 16 :: j 17 :: j 18 :: j 19 :: j 20 :: j 21 :: j 22 :: j 23 :: j 24 :: j 25 :: j 26 :: j 27 :: j 28 :: j 29 :: j 30 :: j 31 :: j 32 :: j 33 :: j 34 :: j 35 :: j 36 :: j 37 :: j 38 :: j 39 :: j 40 :: j 41 :: j 42 :: j 43 :: j 44 :: j 45 :: j 46 :: j 47 :: j 48 :: j 49 :: j 50 :: j 51 :: j 52 :: j 53 :: j 54 :: j 55 :: j 56 :: j 57 :: j 58 :: j 59 :: j 60 :: j 61 :: j 62 :: j 63 :: j 64 :: j 65 :: j 66 :: []), h ++ .box (ru r) :: L⟩) ⟨by omega, by omega, [], junk rfl⟩ ?_
  rintro k st hk ⟨hk1, hk2, L, j, rfl⟩
  obtain rfl | rfl | rfl : k = 0 ∨ k = 1 ∨ k = 2 := by omega
  · simp (disch := first | omega | (simp only [List.length_append, List.length_cons, List.length_nil]; omega)) only [c35r0, c35r1, c35r2, c35r3, c35r4, c35r5, c35r6, c35r7, c35l8, c35r9, c35r10, c35r11, c35r12, c35r13, c35r14, c35r15, c35r16, c35r17, c35l18, c35r19, c35r20, c35r21, c35r22, c35r23, c35r24, c35r25, ll, t1, t2, l1, l2, pc_one, pc_take, os, od, ov1, go_sem, fill_c, ↓reduceIte, reduceCtorEq, Nat.reduceAdd, Nat.reduceSub, Nat.reducePow, Nat.reduceMul, Nat.reduceEqDiff, Nat.reduceLT, Nat.reduceLeDiff, Int.reduceToNat, Int.reduceLT, Int.reduceLE, Int.reduceEq, Int.reduceNeg, Int.reduceAdd, Int.reduceSub, Int.reduceMul]
    refine gfc_same (ec _ r.sv r.sn r.sa ok.s) ?_
    by_cases hc : checkF r.sv r.sa r.sn = 0
    · have e0 : decide (checkF r.sv r.sa r.sn = 0) = true := decide_eq_true hc
      simp (disch := first | omega | (simp only [List.length_append, List.length_cons, List.length_nil]; omega)) only [e0, go_sem, fill_c, ↓reduceIte, reduceCtorEq, Nat.reduceAdd, Nat.reduceSub, Nat.reducePow, Nat.reduceMul, Nat.reduceEqDiff, Nat.reduceLT, Nat.reduceLeDiff, Int.reduceToNat, Int.reduceLT, Int.reduceLE, Int.reduceEq, Int.reduceNeg, Int.reduceAdd, Int.reduceSub, Int.reduceMul]
      exact ⟨hc, _, junk rfl⟩
    · have e : ruChk r = checkF r.sv r.sa r.sn := by simp [ruChk, hc]
      rw [e]
      simp (disch := first | omega | (simp only [List.length_append, List.length_cons, List.length_nil]; omega)) only [hc, go_sem, fill_c, ↓reduceIte, reduceCtorEq, Nat.reduceAdd, Nat.reduceSub, Nat.reducePow, Nat.reduceMul, Nat.reduceEqDiff, Nat.reduceLT, Nat.reduceLeDiff, Int.reduceToNat, Int.reduceLT, Int.reduceLE, Int.reduceEq, Int.reduceNeg, Int.reduceAdd, Int.reduceSub, Int.reduceMul]
      exact FinOk.drop (.inl rfl) (by simp [underL, underD]) ⟨rfl, rfl⟩
  · have hs := hk1 (by omega)
    simp (disch := first | omega | (simp only [List.length_append, List.length_cons, List.length_nil]; omega)) only [c35r0, c35r1, c35r2, c35r3, c35r4, c35r5, c35r6, c35r7, c35l8, c35r9, c35r10, c35r11, c35r12, c35r13, c35r14, c35r15, c35r16, c35r17, c35l18, c35r19, c35r20, c35r21, c35r22, c35r23, c35r24, c35r25, ll, t1, t2, l1, l2, pc_one, pc_take, os, od, ov2, go_sem, fill_c, ↓reduceIte, reduceCtorEq, Nat.reduceAdd, Nat.reduceSub, Nat.reducePow, Nat.reduceMul, Nat.reduceEqDiff, Nat.reduceLT, Nat.reduceLeDiff, Int.reduceToNat, Int.reduceLT, Int.reduceLE, Int.reduceEq, Int.reduceNeg, Int.reduceAdd, Int.reduceSub, Int.reduceMul]
    refine gfc_same (ec _ r.dv r.dn r.da ok.d) ?_
    by_cases hc : checkF r.dv r.da r.dn = 0
    · have e0 : decide (checkF r.dv r.da r.dn = 0) = true := decide_eq_true hc
      simp (disch := first | omega | (simp only [List.length_append, List.length_cons, List.length_nil]; omega)) only [e0, go_sem, fill_c, ↓reduceIte, reduceCtorEq, Nat.reduceAdd, Nat.reduceSub, Nat.reducePow, Nat.reduceMul, Nat.reduceEqDiff, Nat.reduceLT, Nat.reduceLeDiff, Int.reduceToNat, Int.reduceLT, Int.reduceLE, Int.reduceEq, Int.reduceNeg, Int.reduceAdd, Int.reduceSub, Int.reduceMul]
      exact ⟨hs, hc, _, junk rfl⟩
    · have e : ruChk r = checkF r.dv r.da r.dn := by simp [ruChk, hs, hc]
      rw [e]
      simp (disch := first | omega | (simp only [List.length_append, List.length_cons, List.length_nil]; omega)) only [hc, go_sem, fill_c, ↓reduceIte, reduceCtorEq, Nat.reduceAdd, Nat.reduceSub, Nat.reducePow, Nat.reduceMul, Nat.reduceEqDiff, Nat.reduceLT, Nat.reduceLeDiff, Int.reduceToNat, Int.reduceLT, Int.reduceLE, Int.reduceEq, Int.reduceNeg, Int.reduceAdd, Int.reduceSub, Int.reduceMul]
      exact FinOk.drop (.inl rfl) (by simp [underL, underD]) ⟨rfl, rfl⟩
  · have hs := hk1 (by omega)
    have hd := hk2 (by omega)
    skip
    simp (disch := first | omega | (simp only [List.length_append, List.length_cons, List.length_nil]; omega)) only [c35r0, c35r1, c35r2, c35r3, c35r4, c35r5, c35r6, c35r7, c35l8, c35r9, c35r10, c35r11, c35r12, c35r13, c35r14, c35r15, c35r16, c35r17, c35l18, c35r19, c35r20, c35r21, c35r22, c35r23, c35r24, c35r25, ru_0, ru_18, ok, go_sem, fill_c, ↓reduceIte, reduceCtorEq, Nat.reduceAdd, Nat.reduceSub, Nat.reducePow, Nat.reduceMul, Nat.reduceEqDiff, Nat.reduceLT, Nat.reduceLeDiff, Int.reduceToNat, Int.reduceLT, Int.reduceLE, Int.reduceEq, Int.reduceNeg, Int.reduceAdd, Int.reduceSub, Int.reduceMul]
    rcases Classical.em (¬ r.sv = r.dv) with hv | hv
    · have e : ruChk r = 4 := by simp [ruChk, hs, hd, hv]
      rw [e]
      simp (disch := first | omega | (simp only [List.length_append, List.length_cons, List.length_nil]; omega)) only [hv, go_sem, fill_c, ↓reduceIte, reduceCtorEq, Nat.reduceAdd, Nat.reduceSub, Nat.reducePow, Nat.reduceMul, Nat.reduceEqDiff, Nat.reduceLT, Nat.reduceLeDiff, Int.reduceToNat, Int.reduceLT, Int.reduceLE, Int.reduceEq, Int.reduceNeg, Int.reduceAdd, Int.reduceSub, Int.reduceMul]
      exact FinOk.drop (.inl rfl) (by simp [underL, underD]) ⟨rfl, rfl⟩
    replace hv := Classical.not_not.1 hv
    have e0 : decide (r.sv = r.dv) = true := decide_eq_true hv
    simp (disch := first | omega | (simp only [List.length_append, List.length_cons, List.length_nil]; omega)) only [four_fill, e0, ru_d36, ru_d38, ruT, ok, go_sem, ↓reduceIte, reduceCtorEq, Nat.reduceAdd, Nat.reduceSub, Nat.reducePow, Nat.reduceMul, Nat.reduceEqDiff, Nat.reduceLT, Nat.reduceLeDiff, Int.reduceToNat, Int.reduceLT, Int.reduceLE, Int.reduceEq, Int.reduceNeg, Int.reduceAdd, Int.reduceSub, Int.reduceMul]
    refine loop_to 2 (fun k st => (0 < k → spanChk r.slo r.shi = 0) ∧ (1 < k → spanChk r.dlo r.dhi = 0) ∧ ∃ (L : Heap) (j : Nat → D), st = ⟨(j 0 :: .ref h.length 0 :: .int .i64 0 :: j 3 :: j 4 :: j 5 :: j 6 :: j 7 :: j 8 :: j 9 :: j 10 :: j 11 :: j 12 :: j 13 :: j 14 :: j 15 :: j 16 :: j 17 :: j 18 :: j 19 :: j 20 :: j 21 :: j 22 :: j 23 :: j 24 :: j 25 :: j 26 :: j 27 :: j 28 :: j 29 :: j 30 :: j 31 :: j 32 :: j 33 :: .agg [.int .i64 r.slo, .int .i64 r.shi, .int .i64 r.dlo, .int .i64 r.dhi] :: .int .i64 (k : Int) :: j 36 :: j 37 :: j 38 :: j 39 :: j 40 :: j 41 :: j 42 :: j 43 :: j 44 :: j 45 :: j 46 :: j 47 :: j 48 :: j 49 :: j 50 :: j 51 :: j 52 :: j 53 :: j 54 :: j 55 :: j 56 :: j 57 :: j 58 :: j 59 :: j 60 :: j 61 :: j 62 :: j 63 :: j 64 :: j 65 :: j 66 :: []), h ++ .box (ru r) :: L⟩) ⟨by omega, by omega, L, junk rfl⟩ ?_
    rintro k st hk ⟨hk3, hk4, L, j, rfl⟩
    obtain rfl | rfl | rfl : k = 0 ∨ k = 1 ∨ k = 2 := by omega
    · simp (disch := first | omega | (simp only [List.length_append, List.length_cons, List.length_nil]; omega)) only [c35r0, c35r1, c35r2, c35r3, c35r4, c35r5, c35r6, c35r7, c35l8, c35r9, c35r10, c35r11, c35r12, c35r13, c35r14, c35r15, c35r16, c35r17, c35l18, c35r19, c35r20, c35r21, c35r22, c35r23, c35r24, c35r25, splice0, go_sem, fill_c, ↓reduceIte, reduceCtorEq, Nat.reduceAdd, Nat.reduceSub, Nat.reducePow, Nat.reduceMul, Nat.reduceEqDiff, Nat.reduceLT, Nat.reduceLeDiff, Int.reduceToNat, Int.reduceLT, Int.reduceLE, Int.reduceEq, Int.reduceNeg, Int.reduceAdd, Int.reduceSub, Int.reduceMul]
      refine gfc_same (scheck_fc _ r.slo r.shi) ?_
      by_cases hc : spanChk r.slo r.shi = 0
      · have e0 : decide (spanChk r.slo r.shi = 0) = true := decide_eq_true hc
        simp (disch := first | omega | (simp only [List.length_append, List.length_cons, List.length_nil]; omega)) only [e0, go_sem, fill_c, ↓reduceIte, reduceCtorEq, Nat.reduceAdd, Nat.reduceSub, Nat.reducePow, Nat.reduceMul, Nat.reduceEqDiff, Nat.reduceLT, Nat.reduceLeDiff, Int.reduceToNat, Int.reduceLT, Int.reduceLE, Int.reduceEq, Int.reduceNeg, Int.reduceAdd, Int.reduceSub, Int.reduceMul]
        exact ⟨hc, _, junk rfl⟩
      · have e : ruChk r = spanChk r.slo r.shi := by rw [ruChk, if_neg (fun h => h hs), if_neg (fun h => h hd), if_neg (fun h => h hv), if_pos hc]
        rw [e]
        simp (disch := first | omega | (simp only [List.length_append, List.length_cons, List.length_nil]; omega)) only [hc, go_sem, fill_c, ↓reduceIte, reduceCtorEq, Nat.reduceAdd, Nat.reduceSub, Nat.reducePow, Nat.reduceMul, Nat.reduceEqDiff, Nat.reduceLT, Nat.reduceLeDiff, Int.reduceToNat, Int.reduceLT, Int.reduceLE, Int.reduceEq, Int.reduceNeg, Int.reduceAdd, Int.reduceSub, Int.reduceMul]
        exact FinOk.drop (.inl rfl) (by simp [underL, underD]) ⟨rfl, rfl⟩
    · have h3 := hk3 (by omega)
      simp (disch := first | omega | (simp only [List.length_append, List.length_cons, List.length_nil]; omega)) only [c35r0, c35r1, c35r2, c35r3, c35r4, c35r5, c35r6, c35r7, c35l8, c35r9, c35r10, c35r11, c35r12, c35r13, c35r14, c35r15, c35r16, c35r17, c35l18, c35r19, c35r20, c35r21, c35r22, c35r23, c35r24, c35r25, splice0, go_sem, fill_c, ↓reduceIte, reduceCtorEq, Nat.reduceAdd, Nat.reduceSub, Nat.reducePow, Nat.reduceMul, Nat.reduceEqDiff, Nat.reduceLT, Nat.reduceLeDiff, Int.reduceToNat, Int.reduceLT, Int.reduceLE, Int.reduceEq, Int.reduceNeg, Int.reduceAdd, Int.reduceSub, Int.reduceMul]
      refine gfc_same (scheck_fc _ r.dlo r.dhi) ?_
      by_cases hc : spanChk r.dlo r.dhi = 0
      · have e0 : decide (spanChk r.dlo r.dhi = 0) = true := decide_eq_true hc
        simp (disch := first | omega | (simp only [List.length_append, List.length_cons, List.length_nil]; omega)) only [e0, go_sem, fill_c, ↓reduceIte, reduceCtorEq, Nat.reduceAdd, Nat.reduceSub, Nat.reducePow, Nat.reduceMul, Nat.reduceEqDiff, Nat.reduceLT, Nat.reduceLeDiff, Int.reduceToNat, Int.reduceLT, Int.reduceLE, Int.reduceEq, Int.reduceNeg, Int.reduceAdd, Int.reduceSub, Int.reduceMul]
        exact ⟨h3, hc, _, junk rfl⟩
      · have e : ruChk r = spanChk r.dlo r.dhi := by rw [ruChk, if_neg (fun h => h hs), if_neg (fun h => h hd), if_neg (fun h => h hv), if_neg (fun h => h h3), if_pos hc]
        rw [e]
        simp (disch := first | omega | (simp only [List.length_append, List.length_cons, List.length_nil]; omega)) only [hc, go_sem, fill_c, ↓reduceIte, reduceCtorEq, Nat.reduceAdd, Nat.reduceSub, Nat.reducePow, Nat.reduceMul, Nat.reduceEqDiff, Nat.reduceLT, Nat.reduceLeDiff, Int.reduceToNat, Int.reduceLT, Int.reduceLE, Int.reduceEq, Int.reduceNeg, Int.reduceAdd, Int.reduceSub, Int.reduceMul]
        exact FinOk.drop (.inl rfl) (by simp [underL, underD]) ⟨rfl, rfl⟩
    · have h3 := hk3 (by omega)
      have h4 := hk4 (by omega)
      have e : ruChk r = if r.proto < -1 ∨ 255 < r.proto then 1 else if r.dscp < -1 ∨ 63 < r.dscp then 14 else if r.cls < 0 ∨ 16 ≤ r.cls then 11 else 0 := by rw [ruChk, if_neg (fun h => h hs), if_neg (fun h => h hd), if_neg (fun h => h hv), if_neg (fun h => h h3), if_neg (fun h => h h4)]
      rw [e]
      by_cases p1 : r.proto < -1
      · rw [if_pos (.inl p1)]
        simp (disch := first | omega | (simp only [List.length_append, List.length_cons, List.length_nil]; omega)) only [c35r0, c35r1, c35r2, c35r3, c35r4, c35r5, c35r6, c35r7, c35l8, c35r9, c35r10, c35r11, c35r12, c35r13, c35r14, c35r15, c35r16, c35r17, c35l18, c35r19, c35r20, c35r21, c35r22, c35r23, c35r24, c35r25, ru_d40, ru_d41, ru_d42, ruT, ok, p1, go_sem, fill_c, ↓reduceIte, reduceCtorEq, Nat.reduceAdd, Nat.reduceSub, Nat.reducePow, Nat.reduceMul, Nat.reduceEqDiff, Nat.reduceLT, Nat.reduceLeDiff, Int.reduceToNat, Int.reduceLT, Int.reduceLE, Int.reduceEq, Int.reduceNeg, Int.reduceAdd, Int.reduceSub, Int.reduceMul]
        exact FinOk.drop (.inl rfl) (by simp [underL, underD]) ⟨rfl, rfl⟩
      by_cases p2 : 255 < r.proto
      · rw [if_pos (.inr p2)]
        simp (disch := first | omega | (simp only [List.length_append, List.length_cons, List.length_nil]; omega)) only [c35r0, c35r1, c35r2, c35r3, c35r4, c35r5, c35r6, c35r7, c35l8, c35r9, c35r10, c35r11, c35r12, c35r13, c35r14, c35r15, c35r16, c35r17, c35l18, c35r19, c35r20, c35r21, c35r22, c35r23, c35r24, c35r25, ru_d40, ru_d41, ru_d42, ruT, ok, p1, p2, go_sem, fill_c, ↓reduceIte, reduceCtorEq, Nat.reduceAdd, Nat.reduceSub, Nat.reducePow, Nat.reduceMul, Nat.reduceEqDiff, Nat.reduceLT, Nat.reduceLeDiff, Int.reduceToNat, Int.reduceLT, Int.reduceLE, Int.reduceEq, Int.reduceNeg, Int.reduceAdd, Int.reduceSub, Int.reduceMul]
        exact FinOk.drop (.inl rfl) (by simp [underL, underD]) ⟨rfl, rfl⟩
      rw [if_neg (by omega)]
      by_cases p3 : r.dscp < -1
      · rw [if_pos (.inl p3)]
        simp (disch := first | omega | (simp only [List.length_append, List.length_cons, List.length_nil]; omega)) only [c35r0, c35r1, c35r2, c35r3, c35r4, c35r5, c35r6, c35r7, c35l8, c35r9, c35r10, c35r11, c35r12, c35r13, c35r14, c35r15, c35r16, c35r17, c35l18, c35r19, c35r20, c35r21, c35r22, c35r23, c35r24, c35r25, ru_d40, ru_d41, ru_d42, ruT, ok, p1, p2, p3, go_sem, fill_c, ↓reduceIte, reduceCtorEq, Nat.reduceAdd, Nat.reduceSub, Nat.reducePow, Nat.reduceMul, Nat.reduceEqDiff, Nat.reduceLT, Nat.reduceLeDiff, Int.reduceToNat, Int.reduceLT, Int.reduceLE, Int.reduceEq, Int.reduceNeg, Int.reduceAdd, Int.reduceSub, Int.reduceMul]
        exact FinOk.drop (.inl rfl) (by simp [underL, underD]) ⟨rfl, rfl⟩
      by_cases p4 : 63 < r.dscp
      · rw [if_pos (.inr p4)]
        simp (disch := first | omega | (simp only [List.length_append, List.length_cons, List.length_nil]; omega)) only [c35r0, c35r1, c35r2, c35r3, c35r4, c35r5, c35r6, c35r7, c35l8, c35r9, c35r10, c35r11, c35r12, c35r13, c35r14, c35r15, c35r16, c35r17, c35l18, c35r19, c35r20, c35r21, c35r22, c35r23, c35r24, c35r25, ru_d40, ru_d41, ru_d42, ruT, ok, p1, p2, p3, p4, go_sem, fill_c, ↓reduceIte, reduceCtorEq, Nat.reduceAdd, Nat.reduceSub, Nat.reducePow, Nat.reduceMul, Nat.reduceEqDiff, Nat.reduceLT, Nat.reduceLeDiff, Int.reduceToNat, Int.reduceLT, Int.reduceLE, Int.reduceEq, Int.reduceNeg, Int.reduceAdd, Int.reduceSub, Int.reduceMul]
        exact FinOk.drop (.inl rfl) (by simp [underL, underD]) ⟨rfl, rfl⟩
      rw [if_neg (by omega)]
      simp (disch := first | omega | (simp only [List.length_append, List.length_cons, List.length_nil]; omega)) only [c35r0, c35r1, c35r2, c35r3, c35r4, c35r5, c35r6, c35r7, c35l8, c35r9, c35r10, c35r11, c35r12, c35r13, c35r14, c35r15, c35r16, c35r17, c35l18, c35r19, c35r20, c35r21, c35r22, c35r23, c35r24, c35r25, ru_d40, ru_d41, ru_d42, ruT, ok, p1, p2, p3, p4, go_sem, fill_c, ↓reduceIte, reduceCtorEq, Nat.reduceAdd, Nat.reduceSub, Nat.reducePow, Nat.reduceMul, Nat.reduceEqDiff, Nat.reduceLT, Nat.reduceLeDiff, Int.reduceToNat, Int.reduceLT, Int.reduceLE, Int.reduceEq, Int.reduceNeg, Int.reduceAdd, Int.reduceSub, Int.reduceMul]
      refine gfc_same (iscls_fc _ r.cls) ?_
      by_cases p5 : 0 ≤ r.cls ∧ r.cls < 16
      · rw [if_neg (by omega)]
        simp (disch := first | omega | (simp only [List.length_append, List.length_cons, List.length_nil]; omega)) only [p5.1, p5.2, go_sem, fill_c, ↓reduceIte, reduceCtorEq, Nat.reduceAdd, Nat.reduceSub, Nat.reducePow, Nat.reduceMul, Nat.reduceEqDiff, Nat.reduceLT, Nat.reduceLeDiff, Int.reduceToNat, Int.reduceLT, Int.reduceLE, Int.reduceEq, Int.reduceNeg, Int.reduceAdd, Int.reduceSub, Int.reduceMul]
        exact FinOk.drop (.inl rfl) (by simp [underL, underD]) ⟨rfl, rfl⟩
      · have e2 : (decide (0 ≤ r.cls) && decide (r.cls < 16)) = false := by rw [← Bool.decide_and]; exact decide_eq_false p5
        rw [if_pos (by omega), e2]
        simp (disch := first | omega | (simp only [List.length_append, List.length_cons, List.length_nil]; omega)) only [go_sem, fill_c, ↓reduceIte, reduceCtorEq, Nat.reduceAdd, Nat.reduceSub, Nat.reducePow, Nat.reduceMul, Nat.reduceEqDiff, Nat.reduceLT, Nat.reduceLeDiff, Int.reduceToNat, Int.reduceLT, Int.reduceLE, Int.reduceEq, Int.reduceNeg, Int.reduceAdd, Int.reduceSub, Int.reduceMul]
        exact FinOk.drop (.inl rfl) (by simp [underL, underD]) ⟨rfl, rfl⟩

/-! ### Keys -/
structure Ky where
  v : Int
  s : List UInt8
  d : List UInt8
  proto : Int
  dscp : Int
  ports : Bool
  sp : Int
  dp : Int
structure Ky.Ok (k : Ky) : Prop where
  s : k.s.length = 16
  d : k.d.length = 16
def kyT (k : Ky) : List D := [.int .i64 k.proto, .int .i64 k.dscp, .bool k.ports, .int .i64 k.sp, .int .i64 k.dp]
def ky (k : Ky) : List D := .int .i64 k.v :: (ofBytes k.s ++ (ofBytes k.d ++ kyT k))
section
variable {k : Ky} (kok : k.Ok)
include kok
theorem ky_len : (ky k).length = 38 := by simp [ky, kyT, ofBytes_length, kok.s, kok.d]
theorem ky_one : (ky k).all D.one = true := by
  simp only [ky, List.all_cons, List.all_append, ofBytes_one, kyT]; rfl
theorem ky_take : (ky k).take 38 = ky k := List.take_of_length_le (by rw [ky_len kok]; omega)
theorem ky_0 : (ky k)[0]? = some (.int .i64 k.v) := rfl
theorem ky_d1 : (ky k).drop 1 = ofBytes k.s ++ (ofBytes k.d ++ kyT k) := rfl
theorem ky_s : ((ky k).drop 1).take 16 = ofBytes k.s := by
  have h : (ofBytes k.s).length = 16 := by rw [ofBytes_length, kok.s]
  rw [ky_d1 kok, List.take_append_of_le_length (by omega), List.take_of_length_le (by omega)]
theorem ky_l1 : ((ky k).drop 1).length = 37 := by rw [List.length_drop, ky_len kok]
theorem ky_d17 : (ky k).drop 17 = ofBytes k.d ++ kyT k := by
  have h : (ofBytes k.s).length = 16 := by rw [ofBytes_length, kok.s]
  rw [show 17 = 1 + 16 from rfl, ← List.drop_drop, ky_d1 kok, List.drop_append_of_le_length (by omega), List.drop_of_length_le (by omega), List.nil_append]
theorem ky_d : ((ky k).drop 17).take 16 = ofBytes k.d := by
  have h : (ofBytes k.d).length = 16 := by rw [ofBytes_length, kok.d]
  rw [ky_d17 kok, List.take_append_of_le_length (by omega), List.take_of_length_le (by omega)]
theorem ky_l17 : ((ky k).drop 17).length = 21 := by rw [List.length_drop, ky_len kok]
theorem ky_d33 : (ky k).drop 33 = kyT k := by
  have h : (ofBytes k.d).length = 16 := by rw [ofBytes_length, kok.d]
  rw [show 33 = 17 + 16 from rfl, ← List.drop_drop, ky_d17 kok, List.drop_append_of_le_length (by omega), List.drop_of_length_le (by omega), List.nil_append]
theorem ky_d34 : (ky k).drop 34 = (kyT k).drop 1 := by rw [show 34 = 33 + 1 from rfl, ← List.drop_drop, ky_d33 kok]
theorem ky_d35 : (ky k).drop 35 = (kyT k).drop 2 := by rw [show 35 = 33 + 2 from rfl, ← List.drop_drop, ky_d33 kok]
theorem ky_d36 : (ky k).drop 36 = (kyT k).drop 3 := by rw [show 36 = 33 + 3 from rfl, ← List.drop_drop, ky_d33 kok]
theorem ky_d37 : (ky k).drop 37 = (kyT k).drop 4 := by rw [show 37 = 33 + 4 from rfl, ← List.drop_drop, ky_d33 kok]
theorem ky_under (n : Nat) : underL n (ky k) = true := by simp [ky, kyT, underL, underD, under_app, under_bytes]
end
def portOk (lo hi : Int) (ports : Bool) (n : Int) : Bool := (lo == 0 && hi == 65535) || (ports && spanHas lo hi n)
def wishOk (w n : Int) : Bool := decide (w = -1) || decide (w = n)
/-- Has a key all that a rule asks? -/
def ruMatch (r : Ru) (k : Ky) : Bool := decide (ruChk r = 0) && (hasF r.sv r.sa r.sn k.v k.s && (hasF r.dv r.da r.dn k.v k.d && (portOk r.slo r.shi k.ports k.sp && (portOk r.dlo r.dhi k.ports k.dp && (wishOk r.proto k.proto && wishOk r.dscp k.dscp)))))
end Go.Proofs
