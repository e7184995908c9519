/-
  Own work. The walks of shadow.Witness and Meets.
-/
import Derived.Test.YtodlpcoffmnmbaaDoorJa
namespace Go.Proofs
open Go Go.YtodlpcoffmnmbaaDoor
set_option linter.unusedVariables false
set_option linter.unusedSimpArgs false
set_option maxRecDepth 10000

/-! ### weighbridge/shadow.Witness, params 2 -/
def c4r0 : List AStm := [.op (some 2) none (.box (.t 0)),
    .op (some 3) none (.box (.t 1)),
    .op (some 4) none (.alloc [(.int .i64 0), (.int .u8 0), (.int .u8 0), (.int .u8 0), (.int .u8 0), (.int .u8 0), (.int .u8 0), (.int .u8 0), (.int .u8 0), (.int .u8 0), (.int .u8 0), (.int .u8 0), (.int .u8 0), (.int .u8 0), (.int .u8 0), (.int .u8 0), (.int .u8 0), (.int .u8 0), (.int .u8 0), (.int .u8 0), (.int .u8 0), (.int .u8 0), (.int .u8 0), (.int .u8 0), (.int .u8 0), (.int .u8 0), (.int .u8 0), (.int .u8 0), (.int .u8 0), (.int .u8 0), (.int .u8 0), (.int .u8 0), (.int .u8 0), (.int .i64 0), (.int .i64 0), (.bool false), (.int .i64 0), (.int .i64 0)]),
    .op (some 5) none (.mv (.c (.bool false)))]
def c4r1 : List AStm := [.op (some 8) none (.load (some 43) (.t 2)),
    .op (some 9) none (.load (some 43) (.t 3)),
    .op (some 10) none (.bslice 43 [(.int .i64 0), (.int .u8 0), (.int .u8 0), (.int .u8 0), (.int .u8 0), (.int .u8 0), (.int .u8 0), (.int .u8 0), (.int .u8 0), (.int .u8 0), (.int .u8 0), (.int .u8 0), (.int .u8 0), (.int .u8 0), (.int .u8 0), (.int .u8 0), (.int .u8 0), (.int .i64 0), (.int .i64 0), (.int .u8 0), (.int .u8 0), (.int .u8 0), (.int .u8 0), (.int .u8 0), (.int .u8 0), (.int .u8 0), (.int .u8 0), (.int .u8 0), (.int .u8 0), (.int .u8 0), (.int .u8 0), (.int .u8 0), (.int .u8 0), (.int .u8 0), (.int .u8 0), (.int .i64 0), (.int .i64 0), (.int .i64 0), (.int .i64 0), (.int .i64 0), (.int .i64 0), (.int .i64 0), (.int .i64 0), (.int .i64 0), (.int .u8 0), (.int .u8 0), (.int .u8 0), (.int .u8 0), (.int .u8 0), (.int .u8 0), (.int .u8 0), (.int .u8 0), (.int .u8 0), (.int .u8 0), (.int .u8 0), (.int .u8 0), (.int .u8 0), (.int .u8 0), (.int .u8 0), (.int .u8 0), (.int .i64 0), (.int .i64 0), (.int .u8 0), (.int .u8 0), (.int .u8 0), (.int .u8 0), (.int .u8 0), (.int .u8 0), (.int .u8 0), (.int .u8 0), (.int .u8 0), (.int .u8 0), (.int .u8 0), (.int .u8 0), (.int .u8 0), (.int .u8 0), (.int .u8 0), (.int .u8 0), (.int .i64 0), (.int .i64 0), (.int .i64 0), (.int .i64 0), (.int .i64 0), (.int .i64 0), (.int .i64 0), (.int .i64 0)] 2 [(0, 43, (.t 8)), (43, 43, (.t 9))]),
    .call (some 11) none (.c (.fn (.func 12) [] [])) [(.t 10)],
    .op (some 12) none (.un .not (.t 11))]
def c4r2 : List AStm := [.op (some 13) none (.build [(.int .i64 0), (.int .u8 0), (.int .u8 0), (.int .u8 0), (.int .u8 0), (.int .u8 0), (.int .u8 0), (.int .u8 0), (.int .u8 0), (.int .u8 0), (.int .u8 0), (.int .u8 0), (.int .u8 0), (.int .u8 0), (.int .u8 0), (.int .u8 0), (.int .u8 0), (.int .u8 0), (.int .u8 0), (.int .u8 0), (.int .u8 0), (.int .u8 0), (.int .u8 0), (.int .u8 0), (.int .u8 0), (.int .u8 0), (.int .u8 0), (.int .u8 0), (.int .u8 0), (.int .u8 0), (.int .u8 0), (.int .u8 0), (.int .u8 0), (.int .i64 0), (.int .i64 0), (.bool false), (.int .i64 0), (.int .i64 0)] []),
    .op none none (.store 38 (.t 4) (.t 13)),
    .op (some 5) none (.mv (.c (.bool false)))]
def c4r3 : List AStm := [.op (some 6) none (.alloc [(.bool false)])]
def c4r4 : List AStm := [.op (some 14) none (.faddr 0 (.t 2)),
    .op (some 15) none (.faddr 0 (.t 14)),
    .op (some 16) none (.load none (.t 15)),
    .op (some 17) none (.faddr 0 (.t 2)),
    .op (some 18) none (.load (some 18) (.t 17)),
    .op (some 19) none (.faddr 0 (.t 3)),
    .op (some 20) none (.load (some 18) (.t 19)),
    .op (some 22) none (.faddr 18 (.t 2)),
    .op (some 23) none (.load (some 18) (.t 22)),
    .op (some 24) none (.faddr 18 (.t 3)),
    .op (some 25) none (.load (some 18) (.t 24)),
    .op (some 27) none (.faddr 36 (.t 2)),
    .op (some 28) none (.load (some 2) (.t 27)),
    .op (some 29) none (.faddr 36 (.t 3)),
    .op (some 30) none (.load (some 2) (.t 29)),
    .op (some 32) none (.faddr 38 (.t 2)),
    .op (some 33) none (.load (some 2) (.t 32)),
    .op (some 34) none (.faddr 38 (.t 3)),
    .op (some 35) none (.load (some 2) (.t 34)),
    .op (some 37) none (.faddr 40 (.t 2)),
    .op (some 38) none (.load none (.t 37)),
    .op (some 39) none (.faddr 40 (.t 3)),
    .op (some 40) none (.load none (.t 39)),
    .op (some 42) none (.faddr 41 (.t 2)),
    .op (some 43) none (.load none (.t 42)),
    .op (some 44) none (.faddr 41 (.t 3)),
    .op (some 45) none (.load none (.t 44)),
    .callW (some 21) (.c (.fn (.func 13) [] [])) [(.t 6), (.t 18), (.t 20)],
    .chk 14 none (.faddr 0 (.t 2)),
    .chk 15 none (.faddr 0 (.t 14)),
    .chk 16 none (.load none (.t 15)),
    .chk 22 none (.faddr 18 (.t 2)),
    .chk 23 none (.load (some 18) (.t 22)),
    .chk 24 none (.faddr 18 (.t 3)),
    .chk 25 none (.load (some 18) (.t 24)),
    .chk 27 none (.faddr 36 (.t 2)),
    .chk 28 none (.load (some 2) (.t 27)),
    .chk 29 none (.faddr 36 (.t 3)),
    .chk 30 none (.load (some 2) (.t 29)),
    .chk 32 none (.faddr 38 (.t 2)),
    .chk 33 none (.load (some 2) (.t 32)),
    .chk 34 none (.faddr 38 (.t 3)),
    .chk 35 none (.load (some 2) (.t 34)),
    .chk 37 none (.faddr 40 (.t 2)),
    .chk 38 none (.load none (.t 37)),
    .chk 39 none (.faddr 40 (.t 3)),
    .chk 40 none (.load none (.t 39)),
    .chk 42 none (.faddr 41 (.t 2)),
    .chk 43 none (.load none (.t 42)),
    .chk 44 none (.faddr 41 (.t 3)),
    .chk 45 none (.load none (.t 44)),
    .callW (some 26) (.c (.fn (.func 13) [] [])) [(.t 6), (.t 23), (.t 25)],
    .chk 14 none (.faddr 0 (.t 2)),
    .chk 15 none (.faddr 0 (.t 14)),
    .chk 16 none (.load none (.t 15)),
    .chk 27 none (.faddr 36 (.t 2)),
    .chk 28 none (.load (some 2) (.t 27)),
    .chk 29 none (.faddr 36 (.t 3)),
    .chk 30 none (.load (some 2) (.t 29)),
    .chk 32 none (.faddr 38 (.t 2)),
    .chk 33 none (.load (some 2) (.t 32)),
    .chk 34 none (.faddr 38 (.t 3)),
    .chk 35 none (.load (some 2) (.t 34)),
    .chk 37 none (.faddr 40 (.t 2)),
    .chk 38 none (.load none (.t 37)),
    .chk 39 none (.faddr 40 (.t 3)),
    .chk 40 none (.load none (.t 39)),
    .chk 42 none (.faddr 41 (.t 2)),
    .chk 43 none (.load none (.t 42)),
    .chk 44 none (.faddr 41 (.t 3)),
    .chk 45 none (.load none (.t 44)),
    .callW (some 31) (.c (.fn (.func 14) [] [])) [(.t 6), (.t 28), (.t 30)],
    .chk 14 none (.faddr 0 (.t 2)),
    .chk 15 none (.faddr 0 (.t 14)),
    .chk 16 none (.load none (.t 15)),
    .chk 32 none (.faddr 38 (.t 2)),
    .chk 33 none (.load (some 2) (.t 32)),
    .chk 34 none (.faddr 38 (.t 3)),
    .chk 35 none (.load (some 2) (.t 34)),
    .chk 37 none (.faddr 40 (.t 2)),
    .chk 38 none (.load none (.t 37)),
    .chk 39 none (.faddr 40 (.t 3)),
    .chk 40 none (.load none (.t 39)),
    .chk 42 none (.faddr 41 (.t 2)),
    .chk 43 none (.load none (.t 42)),
    .chk 44 none (.faddr 41 (.t 3)),
    .chk 45 none (.load none (.t 44)),
    .callW (some 36) (.c (.fn (.func 14) [] [])) [(.t 6), (.t 33), (.t 35)],
    .chk 14 none (.faddr 0 (.t 2)),
    .chk 15 none (.faddr 0 (.t 14)),
    .chk 16 none (.load none (.t 15)),
    .chk 37 none (.faddr 40 (.t 2)),
    .chk 38 none (.load none (.t 37)),
    .chk 39 none (.faddr 40 (.t 3)),
    .chk 40 none (.load none (.t 39)),
    .chk 42 none (.faddr 41 (.t 2)),
    .chk 43 none (.load none (.t 42)),
    .chk 44 none (.faddr 41 (.t 3)),
    .chk 45 none (.load none (.t 44)),
    .callW (some 41) (.c (.fn (.func 15) [] [])) [(.t 6), (.t 38), (.t 40), (.c (.int .i64 6))],
    .chk 14 none (.faddr 0 (.t 2)),
    .chk 15 none (.faddr 0 (.t 14)),
    .chk 16 none (.load none (.t 15)),
    .chk 42 none (.faddr 41 (.t 2)),
    .chk 43 none (.load none (.t 42)),
    .chk 44 none (.faddr 41 (.t 3)),
    .chk 45 none (.load none (.t 44)),
    .callW (some 46) (.c (.fn (.func 15) [] [])) [(.t 6), (.t 43), (.t 45), (.c (.int .i64 0))],
    .chk 14 none (.faddr 0 (.t 2)),
    .chk 15 none (.faddr 0 (.t 14)),
    .chk 16 none (.load none (.t 15)),
    .op (some 47) none (.build [(.int .i64 0), (.int .u8 0), (.int .u8 0), (.int .u8 0), (.int .u8 0), (.int .u8 0), (.int .u8 0), (.int .u8 0), (.int .u8 0), (.int .u8 0), (.int .u8 0), (.int .u8 0), (.int .u8 0), (.int .u8 0), (.int .u8 0), (.int .u8 0), (.int .u8 0), (.int .u8 0), (.int .u8 0), (.int .u8 0), (.int .u8 0), (.int .u8 0), (.int .u8 0), (.int .u8 0), (.int .u8 0), (.int .u8 0), (.int .u8 0), (.int .u8 0), (.int .u8 0), (.int .u8 0), (.int .u8 0), (.int .u8 0), (.int .u8 0), (.int .i64 0), (.int .i64 0), (.bool false), (.int .i64 0), (.int .i64 0)] [(0, 1, (.t 16)), (1, 16, (.t 21)), (17, 16, (.t 26)), (35, 1, (.c (.bool true))), (36, 1, (.t 31)), (37, 1, (.t 36)), (33, 1, (.t 41)), (34, 1, (.t 46))]),
    .op (some 7) none (.alloc [(.int .i64 0), (.int .u8 0), (.int .u8 0), (.int .u8 0), (.int .u8 0), (.int .u8 0), (.int .u8 0), (.int .u8 0), (.int .u8 0), (.int .u8 0), (.int .u8 0), (.int .u8 0), (.int .u8 0), (.int .u8 0), (.int .u8 0), (.int .u8 0), (.int .u8 0), (.int .u8 0), (.int .u8 0), (.int .u8 0), (.int .u8 0), (.int .u8 0), (.int .u8 0), (.int .u8 0), (.int .u8 0), (.int .u8 0), (.int .u8 0), (.int .u8 0), (.int .u8 0), (.int .u8 0), (.int .u8 0), (.int .u8 0), (.int .u8 0), (.int .i64 0), (.int .i64 0), (.bool false), (.int .i64 0), (.int .i64 0)])]
def c4r5 : List AStm := [.op none none (.store 38 (.t 7) (.t 47))]
def c4r6 : List AStm := [.op (some 48) none (.faddr 0 (.t 6)),
    .op (some 49) none (.load none (.t 48))]
def c4r7 : List AStm := [.op (some 50) none (.build [(.int .i64 0), (.int .u8 0), (.int .u8 0), (.int .u8 0), (.int .u8 0), (.int .u8 0), (.int .u8 0), (.int .u8 0), (.int .u8 0), (.int .u8 0), (.int .u8 0), (.int .u8 0), (.int .u8 0), (.int .u8 0), (.int .u8 0), (.int .u8 0), (.int .u8 0), (.int .u8 0), (.int .u8 0), (.int .u8 0), (.int .u8 0), (.int .u8 0), (.int .u8 0), (.int .u8 0), (.int .u8 0), (.int .u8 0), (.int .u8 0), (.int .u8 0), (.int .u8 0), (.int .u8 0), (.int .u8 0), (.int .u8 0), (.int .u8 0), (.int .i64 0), (.int .i64 0), (.bool false), (.int .i64 0), (.int .i64 0)] []),
    .op none none (.store 38 (.t 4) (.t 50)),
    .op (some 5) none (.mv (.c (.bool false)))]
def c4r8 : List AStm := [.op (some 51) none (.load (some 38) (.t 7)),
    .op none none (.store 38 (.t 4) (.t 51)),
    .op (some 5) none (.mv (.c (.bool true)))]
def c4 : CF := ⟨.seq (.reg c4r0) (.seq (.seq (.reg c4r1) (.cond (.t 12) (.seq (.reg c4r2) (.ret)) (.skip))) (.seq (.reg c4r3) (.seq (.dreg c4r4 c4r5) (.seq (.seq (.reg c4r6) (.cond (.t 49) (.seq (.reg c4r7) (.ret)) (.skip))) (.seq (.reg c4r8) (.ret)))))), [.cell 4 (some 38), .tmp 5], 52⟩
theorem cf4 : cfun Tryd.prog 4 = some c4 := by kernel_rfl

/-! ### weighbridge/shadow.Meets, params 2 -/
def c9r0 : List AStm := [.op (some 2) none (.box (.t 0)),
    .op (some 3) none (.box (.t 1)),
    .op (some 4) none (.mv (.c (.bool false)))]
def c9r1 : List AStm := [.op (some 8) none (.load (some 43) (.t 2)),
    .op (some 9) none (.load (some 43) (.t 3)),
    .call (some 10) none (.c (.fn (.func 4) [] [])) [(.t 8), (.t 9)],
    .op (some 7) none (.mv (.t 10)),
    .op (some 11) none (.ext (.t 7) 0),
    .op (some 12) none (.ext (.t 7) 1),
    .op (some 5) none (.alloc [(.int .i64 0), (.int .u8 0), (.int .u8 0), (.int .u8 0), (.int .u8 0), (.int .u8 0), (.int .u8 0), (.int .u8 0), (.int .u8 0), (.int .u8 0), (.int .u8 0), (.int .u8 0), (.int .u8 0), (.int .u8 0), (.int .u8 0), (.int .u8 0), (.int .u8 0), (.int .u8 0), (.int .u8 0), (.int .u8 0), (.int .u8 0), (.int .u8 0), (.int .u8 0), (.int .u8 0), (.int .u8 0), (.int .u8 0), (.int .u8 0), (.int .u8 0), (.int .u8 0), (.int .u8 0), (.int .u8 0), (.int .u8 0), (.int .u8 0), (.int .i64 0), (.int .i64 0), (.bool false), (.int .i64 0), (.int .i64 0)]),
    .op none none (.store 38 (.t 5) (.t 11)),
    .op (some 6) none (.mv (.t 12))]
def c9r2 : List AStm := [.op (some 13) none (.mv (.t 6)),
    .op (some 4) none (.mv (.t 13))]
def c9 : CF := ⟨.seq (.reg c9r0) (.seq (.reg c9r1) (.seq (.reg c9r2) (.ret))), [.tmp 4], 14⟩
theorem cf9 : cfun Tryd.prog 9 = some c9 := by kernel_rfl



theorem kfcW_set {P : Program} {i : FuncId} {xs : List D} {h : Heap} {rest : List AStm} {t : List D} {dst : Option Nat} {S : List Fr} {Q : Exit → St → Prop} {d : D} {r : Nat} {b : Blk} (hr : r < h.length)
    (hc : ∀ L, FC P i xs (h ++ L) fun d' h' => d' = d ∧ h' = (h ++ L).set r b) (hk : gq P rest S Q ⟨setD t dst d, h.set r b⟩) : kfcW P i xs h rest t dst S Q :=
  kfcW_of (fun L => (hc L).mono (by rintro d' h' ⟨rfl, rfl⟩; exact ⟨rfl, List.set_append_left _ _ hr⟩)) List.length_set hk
/-- Does any key have both? -/
def witS (a b : Ru) : Bool := !(withinF a.sv a.sa a.sn b.sv b.sa b.sn || withinF b.sv b.sa b.sn a.sv a.sa a.sn)
def witD (a b : Ru) : Bool := !(withinF a.dv a.da a.dn b.dv b.da b.dn || withinF b.dv b.da b.dn a.dv a.da a.dn)
def witP (a b : Ru) : Bool := ((((witS a b || witD a b) || !meetB a.slo a.shi b.slo b.shi) || !meetB a.dlo a.dhi b.dlo b.dhi) || numP a.proto b.proto) || numP a.dscp b.dscp
def witB (a b : Ru) : Bool := bothOk a b && !witP a b
def kyNo : Ky := ⟨0, zeros 16, zeros 16, 0, 0, false, 0, 0⟩
theorem kyNo_ok : kyNo.Ok := ⟨zeros_len 16, zeros_len 16⟩
def witK' (a b : Ru) : Ky := ⟨a.sv, if b.sn < a.sn then a.sa else b.sa, if b.dn < a.dn then a.da else b.da, numF a.proto b.proto 6, numF a.dscp b.dscp 0, true, meetLo a.slo a.shi b.slo b.shi, meetLo a.dlo a.dhi b.dlo b.dhi⟩
def witK (a b : Ru) : Ky := if witB a b then witK' a b else kyNo
theorem witK'_ok {a b : Ru} (oa : a.Ok) (ob : b.Ok) : (witK' a b).Ok := ⟨by unfold witK'; simp only; split; exact oa.s; exact ob.s, by unfold witK'; simp only; split; exact oa.d; exact ob.d⟩
theorem witK_ok {a b : Ru} (oa : a.Ok) (ob : b.Ok) : (witK a b).Ok := by unfold witK; split; exact witK'_ok oa ob; exact kyNo_ok
/-- A key's cells, laid one by one. -/
theorem ky_fill {k : Ky} (kok : k.Ok) : fillD (ky kyNo) [(0, 1, .int .i64 k.v), (1, 16, .agg (ofBytes k.s)), (17, 16, .agg (ofBytes k.d)), (35, 1, .bool k.ports), (36, 1, .int .i64 k.sp), (37, 1, .int .i64 k.dp), (33, 1, .int .i64 k.proto), (34, 1, .int .i64 k.dscp)] = some (ky k) := by
  obtain ⟨v, s, d, p, c, po, sp, dp⟩ := k
  obtain ⟨hs, hd⟩ := kok
  simp only at hs hd
  obtain ⟨s0, s1, s2, s3, s4, s5, s6, s7, s8, s9, s10, s11, s12, s13, s14, s15, rfl⟩ : ∃ s0 s1 s2 s3 s4 s5 s6 s7 s8 s9 s10 s11 s12 s13 s14 s15, s = [s0, s1, s2, s3, s4, s5, s6, s7, s8, s9, s10, s11, s12, s13, s14, s15] := by
    match s, hs with
    | [s0, s1, s2, s3, s4, s5, s6, s7, s8, s9, s10, s11, s12, s13, s14, s15], _ => exact ⟨_, _, _, _, _, _, _, _, _, _, _, _, _, _, _, _, rfl⟩
  obtain ⟨d0, d1, d2, d3, d4, d5, d6, d7, d8, d9, d10, d11, d12, d13, d14, d15, rfl⟩ : ∃ s0 s1 s2 s3 s4 s5 s6 s7 s8 s9 s10 s11 s12 s13 s14 s15, d = [s0, s1, s2, s3, s4, s5, s6, s7, s8, s9, s10, s11, s12, s13, s14, s15] := by
    match d, hd with
    | [s0, s1, s2, s3, s4, s5, s6, s7, s8, s9, s10, s11, s12, s13, s14, s15], _ => exact ⟨_, _, _, _, _, _, _, _, _, _, _, _, _, _, _, _, rfl⟩
  rfl
theorem witness_fc (h : Heap) (a b : Ru) (oa : a.Ok) (ob : b.Ok) : FC Tryd.prog 4 [.agg (ru a), .agg (ru b)] h fun d h' => d = .tup [.agg (ky (witK a b)), .bool (witB a b)] ∧ h' = h := by
  have la := ru_len oa
  have lb := ru_len ob
  have zz : ky kyNo = [.int .i64 0, .int .u8 0, .int .u8 0, .int .u8 0, .int .u8 0, .int .u8 0, .int .u8 0, .int .u8 0, .int .u8 0, .int .u8 0, .int .u8 0, .int .u8 0, .int .u8 0, .int .u8 0, .int .u8 0, .int .u8 0, .int .u8 0, .int .u8 0, .int .u8 0, .int .u8 0, .int .u8 0, .int .u8 0, .int .u8 0, .int .u8 0, .int .u8 0, .int .u8 0, .int .u8 0, .int .u8 0, .int .u8 0, .int .u8 0, .int .u8 0, .int .u8 0, .int .u8 0, .int .i64 0, .int .i64 0, .bool false, .int .i64 0, .int .i64 0] := rfl
  have nl := ky_len kyNo_ok
  have n1 := ky_one kyNo_ok
  have nt := ky_take kyNo_ok
  have kf := ky_fill (witK'_ok oa ob)
  have kl := ky_len (witK'_ok oa ob)
  have k1 := ky_one (witK'_ok oa ob)
  have kt := ky_take (witK'_ok oa ob)
  refine FC.goes cf4 ?_; simp only [c4]; simp only [List.length_cons, List.length_nil, Nat.reduceAdd, Nat.reduceSub, List.replicate_succ, List.replicate_zero, List.cons_append, List.nil_append]
  simp only [c4r0, c4r2, c4r4, c4r7, ← zz]
  clear zz
  simp (disch := first | omega | (simp only [List.length_append, List.length_cons, List.length_nil]; omega)) only [c4r0, c4r1, c4r2, c4r3, c4r4, c4r5, c4r6, c4r7, c4r8, la, lb, ru_one, ru_take, oa, ob, go_sem, ↓reduceIte, reduceCtorEq, Nat.reduceAdd, Nat.reduceSub, Nat.reducePow, Nat.reduceMul, Nat.reduceEqDiff, Nat.reduceLT, Nat.reduceLeDiff, Int.reduceToNat, Int.reduceLT, Int.reduceLE, Int.reduceEq, Int.reduceNeg, Int.reduceAdd, Int.reduceSub, Int.reduceMul]
  rw [ru_fill2 oa ob rfl]
  simp (disch := first | omega | (simp only [List.length_append, List.length_cons, List.length_nil]; omega)) only [go_sem, fill_c, ↓reduceIte, reduceCtorEq, Nat.reduceAdd, Nat.reduceSub, Nat.reducePow, Nat.reduceMul, Nat.reduceEqDiff, Nat.reduceLT, Nat.reduceLeDiff, Int.reduceToNat, Int.reduceLT, Int.reduceLE, Int.reduceEq, Int.reduceNeg, Int.reduceAdd, Int.reduceSub, Int.reduceMul]
  refine gfc_same (right_ok_fc _ _ [a, b] (by simp [oa, ob]) (rus_two oa ob (by simp (disch := first | omega | (simp only [List.length_append, List.length_cons, List.length_nil]; omega)) only [go_sem, fill_c, ↓reduceIte, reduceCtorEq, Nat.reduceAdd, Nat.reduceSub, Nat.reducePow, Nat.reduceMul, Nat.reduceEqDiff, Nat.reduceLT, Nat.reduceLeDiff, Int.reduceToNat, Int.reduceLT, Int.reduceLE, Int.reduceEq, Int.reduceNeg, Int.reduceAdd, Int.reduceSub, Int.reduceMul])) (by simp)) ?_
  rw [allOk_two]
  cases h1 : bothOk a b with
  | false =>
    have e : witB a b = false := by rw [witB, h1]; rfl
    have e2 : witK a b = kyNo := by rw [witK, e]; rfl
    rw [e, e2]
    simp (disch := first | omega | (simp only [List.length_append, List.length_cons, List.length_nil]; omega)) only [fill0, nl, n1, nt, go_sem, ↓reduceIte, reduceCtorEq, Nat.reduceAdd, Nat.reduceSub, Nat.reducePow, Nat.reduceMul, Nat.reduceEqDiff, Nat.reduceLT, Nat.reduceLeDiff, Int.reduceToNat, Int.reduceLT, Int.reduceLE, Int.reduceEq, Int.reduceNeg, Int.reduceAdd, Int.reduceSub, Int.reduceMul]
    exact FinOk.drop (.inl rfl) (by simp [underL, underD, ky_under kyNo_ok]) ⟨rfl, rfl⟩
  | true =>
    simp (disch := first | omega | (simp only [List.length_append, List.length_cons, List.length_nil]; omega)) only [la, lb, ru_s, ru_d, ru_l18, ru_d36, ru_d38, ru_d40, ru_d41, ruT, ru_0, oa, ob, go_sem, ↓reduceIte, reduceCtorEq, Nat.reduceAdd, Nat.reduceSub, Nat.reducePow, Nat.reduceMul, Nat.reduceEqDiff, Nat.reduceLT, Nat.reduceLeDiff, Int.reduceToNat, Int.reduceLT, Int.reduceLE, Int.reduceEq, Int.reduceNeg, Int.reduceAdd, Int.reduceSub, Int.reduceMul]
    refine kfcW_set (by simp only [List.length_append, List.length_cons, List.length_nil]; omega) (fun L => address_fc _ _ false (by simp (disch := first | omega | (simp only [List.length_append, List.length_cons, List.length_nil]; omega)) only [go_sem, fill_c, ↓reduceIte, reduceCtorEq, Nat.reduceAdd, Nat.reduceSub, Nat.reducePow, Nat.reduceMul, Nat.reduceEqDiff, Nat.reduceLT, Nat.reduceLeDiff, Int.reduceToNat, Int.reduceLT, Int.reduceLE, Int.reduceEq, Int.reduceNeg, Int.reduceAdd, Int.reduceSub, Int.reduceMul]) a.sv a.sn b.sv b.sn a.sa b.sa oa.s ob.s) ?_
    rw [Bool.false_or]
    change gq _ _ _ _ ⟨_, List.set _ _ (.box [.bool (witS a b)])⟩
    simp (disch := first | omega | (simp only [List.length_append, List.length_cons, List.length_nil]; omega)) only [la, lb, ru_s, ru_d, ru_l18, ru_d36, ru_d38, ru_d40, ru_d41, ruT, ru_0, oa, ob, go_sem, ↓reduceIte, reduceCtorEq, Nat.reduceAdd, Nat.reduceSub, Nat.reducePow, Nat.reduceMul, Nat.reduceEqDiff, Nat.reduceLT, Nat.reduceLeDiff, Int.reduceToNat, Int.reduceLT, Int.reduceLE, Int.reduceEq, Int.reduceNeg, Int.reduceAdd, Int.reduceSub, Int.reduceMul]
    refine kfcW_set (by simp only [List.length_append, List.length_cons, List.length_nil]; omega) (fun L => address_fc _ _ (witS a b) (by simp (disch := first | omega | (simp only [List.length_append, List.length_cons, List.length_nil]; omega)) only [go_sem, fill_c, ↓reduceIte, reduceCtorEq, Nat.reduceAdd, Nat.reduceSub, Nat.reducePow, Nat.reduceMul, Nat.reduceEqDiff, Nat.reduceLT, Nat.reduceLeDiff, Int.reduceToNat, Int.reduceLT, Int.reduceLE, Int.reduceEq, Int.reduceNeg, Int.reduceAdd, Int.reduceSub, Int.reduceMul]) a.dv a.dn b.dv b.dn a.da b.da oa.d ob.d) ?_
    change gq _ _ _ _ ⟨_, List.set _ _ (.box [.bool (witS a b || witD a b)])⟩
    simp (disch := first | omega | (simp only [List.length_append, List.length_cons, List.length_nil]; omega)) only [la, lb, ru_s, ru_d, ru_l18, ru_d36, ru_d38, ru_d40, ru_d41, ruT, ru_0, oa, ob, go_sem, ↓reduceIte, reduceCtorEq, Nat.reduceAdd, Nat.reduceSub, Nat.reducePow, Nat.reduceMul, Nat.reduceEqDiff, Nat.reduceLT, Nat.reduceLeDiff, Int.reduceToNat, Int.reduceLT, Int.reduceLE, Int.reduceEq, Int.reduceNeg, Int.reduceAdd, Int.reduceSub, Int.reduceMul]
    refine kfcW_set (by simp only [List.length_append, List.length_cons, List.length_nil]; omega) (fun L => mport2_fc _ _ (witS a b || witD a b) (by simp (disch := first | omega | (simp only [List.length_append, List.length_cons, List.length_nil]; omega)) only [go_sem, fill_c, ↓reduceIte, reduceCtorEq, Nat.reduceAdd, Nat.reduceSub, Nat.reducePow, Nat.reduceMul, Nat.reduceEqDiff, Nat.reduceLT, Nat.reduceLeDiff, Int.reduceToNat, Int.reduceLT, Int.reduceLE, Int.reduceEq, Int.reduceNeg, Int.reduceAdd, Int.reduceSub, Int.reduceMul]) _ _ _ _) ?_
    simp (disch := first | omega | (simp only [List.length_append, List.length_cons, List.length_nil]; omega)) only [la, lb, ru_s, ru_d, ru_l18, ru_d36, ru_d38, ru_d40, ru_d41, ruT, ru_0, oa, ob, go_sem, ↓reduceIte, reduceCtorEq, Nat.reduceAdd, Nat.reduceSub, Nat.reducePow, Nat.reduceMul, Nat.reduceEqDiff, Nat.reduceLT, Nat.reduceLeDiff, Int.reduceToNat, Int.reduceLT, Int.reduceLE, Int.reduceEq, Int.reduceNeg, Int.reduceAdd, Int.reduceSub, Int.reduceMul]
    refine kfcW_set (by simp only [List.length_append, List.length_cons, List.length_nil]; omega) (fun L => mport2_fc _ _ ((witS a b || witD a b) || !meetB a.slo a.shi b.slo b.shi) (by simp (disch := first | omega | (simp only [List.length_append, List.length_cons, List.length_nil]; omega)) only [go_sem, fill_c, ↓reduceIte, reduceCtorEq, Nat.reduceAdd, Nat.reduceSub, Nat.reducePow, Nat.reduceMul, Nat.reduceEqDiff, Nat.reduceLT, Nat.reduceLeDiff, Int.reduceToNat, Int.reduceLT, Int.reduceLE, Int.reduceEq, Int.reduceNeg, Int.reduceAdd, Int.reduceSub, Int.reduceMul]) _ _ _ _) ?_
    simp (disch := first | omega | (simp only [List.length_append, List.length_cons, List.length_nil]; omega)) only [la, lb, ru_s, ru_d, ru_l18, ru_d36, ru_d38, ru_d40, ru_d41, ruT, ru_0, oa, ob, go_sem, ↓reduceIte, reduceCtorEq, Nat.reduceAdd, Nat.reduceSub, Nat.reducePow, Nat.reduceMul, Nat.reduceEqDiff, Nat.reduceLT, Nat.reduceLeDiff, Int.reduceToNat, Int.reduceLT, Int.reduceLE, Int.reduceEq, Int.reduceNeg, Int.reduceAdd, Int.reduceSub, Int.reduceMul]
    refine kfcW_set (by simp only [List.length_append, List.length_cons, List.length_nil]; omega) (fun L => number_fc _ _ (((witS a b || witD a b) || !meetB a.slo a.shi b.slo b.shi) || !meetB a.dlo a.dhi b.dlo b.dhi) (by simp (disch := first | omega | (simp only [List.length_append, List.length_cons, List.length_nil]; omega)) only [go_sem, fill_c, ↓reduceIte, reduceCtorEq, Nat.reduceAdd, Nat.reduceSub, Nat.reducePow, Nat.reduceMul, Nat.reduceEqDiff, Nat.reduceLT, Nat.reduceLeDiff, Int.reduceToNat, Int.reduceLT, Int.reduceLE, Int.reduceEq, Int.reduceNeg, Int.reduceAdd, Int.reduceSub, Int.reduceMul]) _ _ _) ?_
    simp (disch := first | omega | (simp only [List.length_append, List.length_cons, List.length_nil]; omega)) only [la, lb, ru_s, ru_d, ru_l18, ru_d36, ru_d38, ru_d40, ru_d41, ruT, ru_0, oa, ob, go_sem, ↓reduceIte, reduceCtorEq, Nat.reduceAdd, Nat.reduceSub, Nat.reducePow, Nat.reduceMul, Nat.reduceEqDiff, Nat.reduceLT, Nat.reduceLeDiff, Int.reduceToNat, Int.reduceLT, Int.reduceLE, Int.reduceEq, Int.reduceNeg, Int.reduceAdd, Int.reduceSub, Int.reduceMul]
    refine kfcW_set (by simp only [List.length_append, List.length_cons, List.length_nil]; omega) (fun L => number_fc _ _ ((((witS a b || witD a b) || !meetB a.slo a.shi b.slo b.shi) || !meetB a.dlo a.dhi b.dlo b.dhi) || numP a.proto b.proto) (by simp (disch := first | omega | (simp only [List.length_append, List.length_cons, List.length_nil]; omega)) only [go_sem, fill_c, ↓reduceIte, reduceCtorEq, Nat.reduceAdd, Nat.reduceSub, Nat.reducePow, Nat.reduceMul, Nat.reduceEqDiff, Nat.reduceLT, Nat.reduceLeDiff, Int.reduceToNat, Int.reduceLT, Int.reduceLE, Int.reduceEq, Int.reduceNeg, Int.reduceAdd, Int.reduceSub, Int.reduceMul]) _ _ _) ?_
    change gq _ _ _ _ ⟨_, List.set _ _ (.box [.bool (witP a b)])⟩
    simp (disch := first | omega | (simp only [List.length_append, List.length_cons, List.length_nil]; omega)) only [la, lb, ru_s, ru_d, ru_l18, ru_d36, ru_d38, ru_d40, ru_d41, ruT, ru_0, oa, ob, go_sem, ↓reduceIte, reduceCtorEq, Nat.reduceAdd, Nat.reduceSub, Nat.reducePow, Nat.reduceMul, Nat.reduceEqDiff, Nat.reduceLT, Nat.reduceLeDiff, Int.reduceToNat, Int.reduceLT, Int.reduceLE, Int.reduceEq, Int.reduceNeg, Int.reduceAdd, Int.reduceSub, Int.reduceMul]
    have kf' : fillD (ky kyNo) [(0, 1, .int .i64 a.sv), (1, 16, .agg (ofBytes (if b.sn < a.sn then a.sa else b.sa))), (17, 16, .agg (ofBytes (if b.dn < a.dn then a.da else b.da))), (35, 1, .bool true), (36, 1, .int .i64 (meetLo a.slo a.shi b.slo b.shi)),
      (37, 1, .int .i64 (meetLo a.dlo a.dhi b.dlo b.dhi)), (33, 1, .int .i64 (numF a.proto b.proto 6)), (34, 1, .int .i64 (numF a.dscp b.dscp 0))] = some (ky (witK' a b)) := kf
    rw [kf']
    simp (disch := first | omega | (simp only [List.length_append, List.length_cons, List.length_nil]; omega)) only [nl, n1, nt, kl, k1, kt, go_sem, ↓reduceIte, reduceCtorEq, Nat.reduceAdd, Nat.reduceSub, Nat.reducePow, Nat.reduceMul, Nat.reduceEqDiff, Nat.reduceLT, Nat.reduceLeDiff, Int.reduceToNat, Int.reduceLT, Int.reduceLE, Int.reduceEq, Int.reduceNeg, Int.reduceAdd, Int.reduceSub, Int.reduceMul]
    cases h2 : witP a b with
    | true =>
      have e : witB a b = false := by rw [witB, h1, h2]; rfl
      have e2 : witK a b = kyNo := by rw [witK, e]; rfl
      rw [e, e2]
      simp (disch := first | omega | (simp only [List.length_append, List.length_cons, List.length_nil]; omega)) only [fill0, nl, n1, nt, go_sem, ↓reduceIte, reduceCtorEq, Nat.reduceAdd, Nat.reduceSub, Nat.reducePow, Nat.reduceMul, Nat.reduceEqDiff, Nat.reduceLT, Nat.reduceLeDiff, Int.reduceToNat, Int.reduceLT, Int.reduceLE, Int.reduceEq, Int.reduceNeg, Int.reduceAdd, Int.reduceSub, Int.reduceMul]
      exact FinOk.drop (.inl rfl) (by simp [underL, underD, ky_under kyNo_ok]) ⟨rfl, rfl⟩
    | false =>
      have e : witB a b = true := by rw [witB, h1, h2]; rfl
      have e2 : witK a b = witK' a b := by rw [witK, e]; rfl
      rw [e, e2]
      simp (disch := first | omega | (simp only [List.length_append, List.length_cons, List.length_nil]; omega)) only [fill0, nl, n1, nt, kl, k1, kt, go_sem, ↓reduceIte, reduceCtorEq, Nat.reduceAdd, Nat.reduceSub, Nat.reducePow, Nat.reduceMul, Nat.reduceEqDiff, Nat.reduceLT, Nat.reduceLeDiff, Int.reduceToNat, Int.reduceLT, Int.reduceLE, Int.reduceEq, Int.reduceNeg, Int.reduceAdd, Int.reduceSub, Int.reduceMul]
      exact FinOk.drop (.inl rfl) (by simp [underL, underD, ky_under (witK'_ok oa ob)]) ⟨rfl, rfl⟩
theorem meets_fc (h : Heap) (a b : Ru) (oa : a.Ok) (ob : b.Ok) : FC Tryd.prog 9 [.agg (ru a), .agg (ru b)] h fun d h' => d = .bool (witB a b) ∧ h' = h := by
  have la := ru_len oa
  have lb := ru_len ob
  have kl := ky_len (witK_ok oa ob)
  have k1 := ky_one (witK_ok oa ob)
  have kt := ky_take (witK_ok oa ob)
  refine FC.goes cf9 ?_; simp only [c9]; simp only [List.length_cons, List.length_nil, Nat.reduceAdd, Nat.reduceSub, List.replicate_succ, List.replicate_zero, List.cons_append, List.nil_append]
  simp (disch := first | omega | (simp only [List.length_append, List.length_cons, List.length_nil]; omega)) only [c9r0, c9r1, c9r2, la, lb, ru_one, ru_take, oa, ob, go_sem, ↓reduceIte, reduceCtorEq, Nat.reduceAdd, Nat.reduceSub, Nat.reducePow, Nat.reduceMul, Nat.reduceEqDiff, Nat.reduceLT, Nat.reduceLeDiff, Int.reduceToNat, Int.reduceLT, Int.reduceLE, Int.reduceEq, Int.reduceNeg, Int.reduceAdd, Int.reduceSub, Int.reduceMul]
  refine gfc_same (witness_fc _ a b oa ob) ?_
  simp (disch := first | omega | (simp only [List.length_append, List.length_cons, List.length_nil]; omega)) only [kl, k1, kt, go_sem, ↓reduceIte, reduceCtorEq, Nat.reduceAdd, Nat.reduceSub, Nat.reducePow, Nat.reduceMul, Nat.reduceEqDiff, Nat.reduceLT, Nat.reduceLeDiff, Int.reduceToNat, Int.reduceLT, Int.reduceLE, Int.reduceEq, Int.reduceNeg, Int.reduceAdd, Int.reduceSub, Int.reduceMul]
  exact FinOk.drop (.inl rfl) (by simp [underL, underD]) ⟨rfl, rfl⟩
end Go.Proofs
