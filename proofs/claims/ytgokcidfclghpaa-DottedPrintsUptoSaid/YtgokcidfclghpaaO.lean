/-
  Own work. The walks of the document's wide numbers: Bits, whole, Of.
-/
import Derived.Test.YtgokcidfclghpaaVv
namespace Go.Proofs
open Go Go.Ytgokcidfclghpaa
set_option linter.unusedVariables false
set_option linter.unusedSimpArgs false
set_option maxRecDepth 10000

/-! ### weighbridge/weighbridgeref02.Bits, params 1 -/
def c33r0 : List AStm := [.op (some 1) none (.box (.t 0)),
    .op (some 2) none (.alloc (List.replicate 128 (.int .i64 0)))]
def c33r1 : List AStm := [.op (some 3) none (.alloc (List.replicate 128 (.int .i64 0)))]
def c33r2 : List AStm := [.op (some 4) none (.mv (.c (.int .i64 0)))]
def c33r3 : List AStm := [.op (some 5) none (.mv (.t 4)),
    .op (some 6) none (.bin .lss (.t 5) (.c (.int .i64 64)))]
def c33r4 : List AStm := [.op (some 9) none (.mv (.t 4)),
    .op (some 10) none (.faddr 1 (.t 1)),
    .op (some 11) none (.load none (.t 10)),
    .op (some 12) none (.bin .rem (.t 11) (.c (.int .u64 2))),
    .op (some 13) none (.conv .i64 (.t 12)),
    .op (some 14) none (.ixa 128 1 (.t 3) (.t 9)),
    .op none none (.store 1 (.t 14) (.t 13))]
def c33r5 : List AStm := [.op (some 15) none (.mv (.t 4)),
    .op (some 16) none (.bin .add (.c (.int .i64 64)) (.t 15)),
    .op (some 17) none (.faddr 0 (.t 1)),
    .op (some 18) none (.load none (.t 17)),
    .op (some 19) none (.bin .rem (.t 18) (.c (.int .u64 2))),
    .op (some 20) none (.conv .i64 (.t 19)),
    .op (some 21) none (.ixa 128 1 (.t 3) (.t 16)),
    .op none none (.store 1 (.t 21) (.t 20))]
def c33r6 : List AStm := [.op (some 22) none (.faddr 1 (.t 1)),
    .op (some 23) none (.load none (.t 22)),
    .op (some 24) none (.bin .quo (.t 23) (.c (.int .u64 2))),
    .op (some 25) none (.faddr 0 (.t 1)),
    .op (some 26) none (.load none (.t 25)),
    .op (some 27) none (.bin .quo (.t 26) (.c (.int .u64 2))),
    .op (some 28) none (.faddr 1 (.t 1)),
    .op none none (.store 1 (.t 28) (.t 24)),
    .op (some 29) none (.faddr 0 (.t 1)),
    .op none none (.store 1 (.t 29) (.t 27))]
def c33r7 : List AStm := [.op (some 7) none (.mv (.t 4)),
    .op (some 8) none (.bin .add (.t 7) (.c (.int .i64 1))),
    .op (some 4) none (.mv (.t 8))]
def c33l8 : AC := .seq (.seq (.reg c33r3) (.cond (.t 6) (.skip) (.exit 0))) (.seq (.block 1 (.seq (.reg c33r4) (.seq (.reg c33r5) (.reg c33r6)))) (.reg c33r7))
def c33r9 : List AStm := [.op (some 30) none (.load (some 128) (.t 3)),
    .op none none (.store 128 (.t 2) (.t 30))]
def c33 : CF := ⟨.seq (.reg c33r0) (.seq (.reg c33r1) (.seq (.seq (.reg c33r2) (.block 0 (.loop c33l8))) (.seq (.reg c33r9) (.ret)))), [.cell 2 (some 128)], 31⟩
theorem cf33 : cfun Try.prog 33 = some c33 := by kernel_rfl

/-! ### weighbridge/weighbridgeref02.whole, params 1 -/
def c38r0 : List AStm := [.op (some 1) none (.box (.t 0)),
    .op (some 2) none (.alloc [(.int .u64 0), (.int .u64 0)])]
def c38r1 : List AStm := [.op (some 3) none (.alloc [(.int .u64 0), (.int .u64 0)])]
def c38r2 : List AStm := [.op (some 4) none (.mv (.c (.int .i64 63)))]
def c38r3 : List AStm := [.op (some 5) none (.mv (.t 4)),
    .op (some 6) none (.bin .geq (.t 5) (.c (.int .i64 0)))]
def c38r4 : List AStm := [.op (some 9) none (.faddr 1 (.t 3)),
    .op (some 10) none (.load none (.t 9)),
    .op (some 11) none (.bin .mul (.t 10) (.c (.int .u64 2))),
    .op (some 12) none (.mv (.t 4)),
    .op (some 13) none (.ixa 128 1 (.t 1) (.t 12)),
    .op (some 14) none (.load none (.t 13)),
    .op (some 15) none (.conv .u64 (.t 14)),
    .op (some 16) none (.bin .add (.t 11) (.t 15)),
    .op (some 17) none (.faddr 1 (.t 3)),
    .op none none (.store 1 (.t 17) (.t 16))]
def c38r5 : List AStm := []
def c38r6 : List AStm := [.op (some 18) none (.faddr 0 (.t 3)),
    .op (some 19) none (.load none (.t 18)),
    .op (some 20) none (.bin .mul (.t 19) (.c (.int .u64 2))),
    .op (some 21) none (.mv (.t 4)),
    .op (some 22) none (.bin .add (.c (.int .i64 64)) (.t 21)),
    .op (some 23) none (.ixa 128 1 (.t 1) (.t 22)),
    .op (some 24) none (.load none (.t 23)),
    .op (some 25) none (.conv .u64 (.t 24)),
    .op (some 26) none (.bin .add (.t 20) (.t 25)),
    .op (some 27) none (.faddr 0 (.t 3)),
    .op none none (.store 1 (.t 27) (.t 26))]
def c38r7 : List AStm := []
def c38r8 : List AStm := [.op (some 7) none (.mv (.t 4)),
    .op (some 8) none (.bin .sub (.t 7) (.c (.int .i64 1))),
    .op (some 4) none (.mv (.t 8))]
def c38l9 : AC := .seq (.seq (.reg c38r3) (.cond (.t 6) (.skip) (.exit 0))) (.seq (.block 1 (.seq (.dreg c38r4 c38r5) (.dreg c38r6 c38r7))) (.reg c38r8))
def c38r10 : List AStm := [.op (some 28) none (.load (some 2) (.t 3)),
    .op none none (.store 2 (.t 2) (.t 28))]
def c38 : CF := ⟨.seq (.reg c38r0) (.seq (.reg c38r1) (.seq (.seq (.reg c38r2) (.block 0 (.loop c38l9))) (.seq (.reg c38r10) (.ret)))), [.cell 2 (some 2)], 29⟩
theorem cf38 : cfun Try.prog 38 = some c38 := by kernel_rfl

/-! ### weighbridge/weighbridgeref02.Of, params 1 -/
def c35r0 : List AStm := [.op (some 2) none (.alloc [(.int .u64 0), (.int .u64 0)])]
def c35r1 : List AStm := [.op (some 3) none (.mv (.t 0)),
    .op (some 4) none (.build [(.int .u64 0), (.int .u64 0)] [(1, 1, (.t 3))]),
    .op none none (.store 2 (.t 2) (.t 4))]
def c35 : CF := ⟨.seq (.reg c35r0) (.seq (.reg c35r1) (.ret)), [.cell 2 (some 2)], 5⟩
theorem cf35 : cfun Try.prog 35 = some c35 := by kernel_rfl



/-- A wide number as data. -/
def wideD (n : Nat) : List D := [.int .u64 ((n / 18446744073709551616 : Nat) : Int), .int .u64 ((n % 18446744073709551616 : Nat) : Int)]
def bitD (n : Nat) (i : Nat) : D := .int .i64 ((n / 2 ^ i % 2 : Nat) : Int)
def bitsD (n : Nat) : List D := (List.range 128).map (bitD n)
def bitsK (n k : Nat) : List D := (List.range 128).map fun i => if i % 64 < k then bitD n i else .int .i64 0

theorem bitsK_len (n k : Nat) : (bitsK n k).length = 128 := by simp [bitsK]
theorem bitsD_len (n : Nat) : (bitsD n).length = 128 := by simp [bitsD]
theorem bitsK_0 (n : Nat) : bitsK n 0 = List.replicate 128 (.int .i64 0) := by
  unfold bitsK; rw [List.eq_replicate_iff]; refine ⟨by simp, fun d hd => ?_⟩
  obtain ⟨i, _, rfl⟩ := List.mem_map.1 hd
  simp
theorem bitsK_64 (n : Nat) : bitsK n 64 = bitsD n := by
  unfold bitsK bitsD
  apply List.map_congr_left
  intro i _
  rw [if_pos (by omega)]
theorem bitsK_succ {n k : Nat} (hk : k < 64) {x y : D} (hx : x = bitD n k) (hy : y = bitD n (64 + k)) : ((bitsK n k).set k x).set (64 + k) y = bitsK n (k + 1) := by
  subst hx; subst hy
  apply List.ext_getElem (by simp [bitsK])
  intro i h1 h2
  simp only [bitsK, List.length_set, List.length_map, List.length_range] at h1 h2
  simp only [bitsK, List.getElem_set, List.getElem_map, List.getElem_range]
  by_cases h3 : 64 + k = i
  · subst h3; rw [if_pos rfl, if_pos (by omega)]
  · rw [if_neg h3]
    by_cases h4 : k = i
    · subst h4; rw [if_pos rfl, if_pos (by omega)]
    · rw [if_neg h4]
      by_cases h5 : i % 64 < k
      · rw [if_pos h5, if_pos (by omega)]
      · rw [if_neg h5, if_neg (by omega)]

theorem mod_bit {n k : Nat} (hk : k < 64) : n % 18446744073709551616 / 2 ^ k % 2 = n / 2 ^ k % 2 := by
  have h := Nat.testBit_mod_two_pow n 64 k
  have e : (2 : Nat) ^ 64 = 18446744073709551616 := rfl
  rw [e, Nat.testBit_eq_decide_div_mod_eq, Nat.testBit_eq_decide_div_mod_eq] at h
  simp only [hk, decide_true, Bool.true_and, decide_eq_decide] at h
  omega
theorem div_bit {n k : Nat} : n / 18446744073709551616 / 2 ^ k % 2 = n / 2 ^ (64 + k) % 2 := by
  rw [Nat.div_div_eq_div_mul, Nat.pow_add]
theorem half {m i : Nat} : m / 2 ^ (i + 1) * 2 + m / 2 ^ i % 2 = m / 2 ^ i := by
  rw [Nat.pow_succ, ← Nat.div_div_eq_div_mul]; omega

theorem bitsD_get {n i : Nat} (hi : i < 128) : (bitsD n)[i]? = some (bitD n i) := by simp [bitsD, hi]
theorem drop_get {n i : Nat} (hi : i < 128) : (List.drop i (bitsD n))[0]? = some (.int .i64 ((n / 2 ^ i % 2 : Nat) : Int)) := by
  rw [List.getElem?_drop, Nat.add_zero, bitsD_get hi]; rfl
theorem bitsD_one (n : Nat) : (bitsD n).all D.one = true := by
  rw [List.all_eq_true]; intro d hd
  obtain ⟨i, _, rfl⟩ := List.mem_map.1 hd
  rfl

theorem bitsD_under (k n : Nat) : underL k (bitsD n) = true := by
  unfold bitsD
  generalize List.range 128 = l
  induction l with
  | nil => rfl
  | cons i l ih => simp [underL, ih, bitD, underD]
theorem bits_fc (h : Heap) (n : Nat) (hn : n < 340282366920938463463374607431768211456) : FC Try.prog 33 [.agg (wideD n)] h fun d h' => d = .agg (bitsD n) ∧ h' = h := by
  refine FC.goes cf33 ?_; simp only [c33]; simp only [List.length_cons, List.length_nil, Nat.reduceAdd, Nat.reduceSub, List.replicate_succ, List.replicate_zero, List.cons_append, List.nil_append]
  simp (disch := first | omega | (simp only [List.length_append, List.length_cons, List.length_nil]; omega)) only [c33r0, c33r1, c33r2, c33r3, c33r4, c33r5, c33r6, c33r7, c33l8, c33r9, wideD, ek_b, eq_self, ek_b, ek_i, ek_s, eq_bytes, ↓go_dregT, ↓po_seq, ↓po_seqE, ↓po_seqR, ↓po_tail, ↓po_k, ↓po_kE, ↓po_kR, ↓po_blk, ↓po_blkE, ↓po_blkE', ↓po_blkR, ↓po_endR, ↓po_endN, ↓go_skip, ↓go_reg, ↓go_seq, ↓go_cond, ↓go_block, ↓go_loop, ↓go_exit, ↓go_ret, ↓gc_T, ↓gc_F, ↓gs_nil, ↓gs_op, ↓gs_opg, ↓gs_call, ↓gs_callg, gop_some, gop_ite, ggrd_TT, ggrd_FF, ggrd_TF, ggrd_FT, ggrd_tup, ggcall_TT, ggcall_FF, ggcall_TF, ggcall_FT, ggcall_tup, gcall_fn, ↓gq_nil, ↓gq_op, ↓gq_opg, ↓gq_call, ↓gq_callg, kop_some, kop_ite, kgrd_TT, kgrd_FF, kgrd_TF, kgrd_FT, kgrd_tup, kgcall_TT, kgcall_FF, kgcall_TF, kgcall_FT, kgcall_tup, kcall_fn, ↓gq_callL, kcallL_fn, ↓gq_chk, kchk_some, ↓gq_chkg, kgchk_TT, kgchk_FF, kgchk_TF, kgchk_FT, kgchk_tup, it_pos, it_neg, tdivN, tmodN, get_low, set_low, shl_u8, shr_u8, or_u8, and_u8, xor_u8, shl_u16, shr_u16, or_u16, and_u16, xor_u16, shl_u32, shr_u32, or_u32, and_u32, xor_u32, shl_u64, shr_u64, or_u64, and_u64, xor_u64, wb_u8, wb_u16, wb_u32, wb_u64, wb_i64, boxOf_box, boxOf_ice, growOf_grow, growOf_ice, pc_fptr, pc_ref, pc_eref, sc_nils, sc_sl, sc_own, sc_osl, sc_bsl, ll_nils, ll_sl, ll_own, ll_osl, ll_bsl, ld_str, ld_nils, ld_sl, ld_own, ld_osl, ld_bsl, src_str, src_nils, src_sl, src_own, src_osl, src_bsl, fa_fptr, fa_ref, fa_eref, so_nilp, so_fptr, so_ref, so_eref, so_nils, so_sl, so_own, so_osl, so_bsl, so_nilf, so_fn, so_nili, so_str, so_int, in_nilp, in_nils, in_nilf, in_nili, in_fn, in_fptr, in_sl, in_own, in_osl, in_bsl, in_ref, in_eref, la_agg, la_int, la_bool, la_str, la_nils, la_sl, la_own, la_osl, la_bsl, la_nilp, la_fptr, la_ref, la_eref, vc_agg, vc_int, vc_bool, vc_str, vc_nils, vc_sl, vc_own, vc_osl, vc_bsl, vc_nilp, vc_fptr, vc_ref, vc_eref, on_int, on_bool, on_str, on_nils, on_sl, on_own, on_osl, on_bsl, on_nilp, on_fptr, on_ref, on_eref, ea_sl, ea_own, ea_osl, ea_bsl, ss_nils, ss_sl, ss_own, ss_osl, ss_bsl, boxW_box, growW_grow, sa_ref, sa_eref, ap_nils, ap_sl, ap_own, ci_own, ci_osl, ci_bsl, eqk_b, eqk_i, eqk_s, packD_1, packD_2, packD_0, ↓reduceIte, hp_get, hp_get0, hp_set, hp_set0, hp_assoc, hp_len, hb_set0, hb_set1, hb_last, hb_cons, hb_nil, hb_get0, hb_get1, mk_bs, fill0, fill_c, splice1, splice_all, splice_rep, splice_reps, spliceN, len_rep, clen_set, clen_rep, clen_cons, clen_nil, clen_app, take_rep, all_rep_i, List.take_length, Nat.zero_add, List.drop_zero, List.drop_succ_cons, List.drop_nil, List.take_succ_cons, List.take_zero, List.take_nil, mnxD, eqCells, List.all_cons, List.all_nil, Bool.and_self, Bool.and_true, Bool.true_and, bytesOf_ofBytes, ofBytes_length, ofBytes_append, ofBytes_one, aop, ev, setD, List.set_cons_zero, List.set_cons_succ, set_0, get_0, set_1, get_1, set_2, get_2, set_3, get_3, set_4, get_4, set_5, get_5, set_6, get_6, set_7, get_7, set_8, get_8, ar_add, ar_sub, ar_mul, ar_quo, ar_rem, ar_eql, ar_neq, ar_lss, ar_leq, ar_gtr, ar_geq, as_add, as_eql, as_neq, idx_ok, bnd_no, bnd_ok, bnd_nat, Option.map_some, Option.map_none, Option.bind_some, List.map_cons, List.map_nil, List.append_nil, List.nil_append, List.cons_append, strSort, bs_size, bs_list, bs_extract, bs_append, loadCs, resD, unop, decide_true, decide_false, Bool.not_true, Bool.not_false, reduceCtorEq, Bool.true_eq_false, Bool.false_eq_true, not_true_eq_false, not_false_eq_true, false_implies, true_implies, imp_self, and_true, true_and, forall_const, decide_eq_true_eq, decide_eq_false_iff_not, decide_not, Bool.not_eq_true', Bool.not_eq_false', w_i64, w_u8, w_u16, w_u32, w_u64, List.length_cons, List.length_nil, Nat.reduceAdd, Nat.reduceSub, Nat.reducePow, Nat.reduceMul, Int.toNat_natCast, Int.cast_ofNat_Int, Nat.mul_one, Nat.reduceEqDiff, Nat.reduceLT, Nat.reduceLeDiff, Option.some.injEq, exists_eq_left', and_self, List.getElem?_cons_zero, List.getElem?_cons_succ, Int.reduceToNat, Int.reduceLT, Int.reduceLE, Int.reduceEq, Int.reduceNeg, Int.reduceAdd, Int.reduceSub, Int.reduceMul]
  refine loop_to 64 (fun k st => ∃ j : Nat → D, st = ⟨(j 0 :: .ref h.length 0 :: .ref (h.length + 1) 0 :: .ref (h.length + 2) 0 :: .int .i64 k :: j 5 :: j 6 :: j 7 :: j 8 :: j 9 :: j 10 :: j 11 :: j 12 :: j 13 :: j 14 :: j 15 :: j 16 :: j 17 :: j 18 :: j 19 :: j 20 :: j 21 :: j 22 :: j 23 :: j 24 :: j 25 :: j 26 :: j 27 :: j 28 :: j 29 :: j 30 :: []), h ++ [.box [.int .u64 ((n / 18446744073709551616 / 2 ^ k : Nat) : Int), .int .u64 ((n % 18446744073709551616 / 2 ^ k : Nat) : Int)], .box (List.replicate 128 (.int .i64 0)), .box (bitsK n k)]⟩) (by simp only [Nat.pow_zero, Nat.div_one, bitsK_0]; exact junk rfl) ?_
  rintro k st hk ⟨j, rfl⟩
  have hlen := bitsK_len n k
  by_cases hlt : k < 64
  · have e1 : (k : Int) < 64 := by omega
    have q1 : n / 18446744073709551616 / 2 ^ k < 18446744073709551616 := Nat.lt_of_le_of_lt (Nat.div_le_self _ _) (by omega)
    have q2 : n % 18446744073709551616 / 2 ^ k < 18446744073709551616 := Nat.lt_of_le_of_lt (Nat.div_le_self _ _) (by omega)
    generalize hx : n / 18446744073709551616 / 2 ^ k = x at q1 ⊢
    generalize hy : n % 18446744073709551616 / 2 ^ k = y at q2 ⊢
    simp (disch := first | omega | (simp only [List.length_append, List.length_cons, List.length_nil]; omega)) only [c33r0, c33r1, c33r2, c33r3, c33r4, c33r5, c33r6, c33r7, c33l8, c33r9, e1, List.length_set, ek_b, eq_self, ek_b, ek_i, ek_s, eq_bytes, ↓go_dregT, ↓po_seq, ↓po_seqE, ↓po_seqR, ↓po_tail, ↓po_k, ↓po_kE, ↓po_kR, ↓po_blk, ↓po_blkE, ↓po_blkE', ↓po_blkR, ↓po_endR, ↓po_endN, ↓go_skip, ↓go_reg, ↓go_seq, ↓go_cond, ↓go_block, ↓go_loop, ↓go_exit, ↓go_ret, ↓gc_T, ↓gc_F, ↓gs_nil, ↓gs_op, ↓gs_opg, ↓gs_call, ↓gs_callg, gop_some, gop_ite, ggrd_TT, ggrd_FF, ggrd_TF, ggrd_FT, ggrd_tup, ggcall_TT, ggcall_FF, ggcall_TF, ggcall_FT, ggcall_tup, gcall_fn, ↓gq_nil, ↓gq_op, ↓gq_opg, ↓gq_call, ↓gq_callg, kop_some, kop_ite, kgrd_TT, kgrd_FF, kgrd_TF, kgrd_FT, kgrd_tup, kgcall_TT, kgcall_FF, kgcall_TF, kgcall_FT, kgcall_tup, kcall_fn, ↓gq_callL, kcallL_fn, ↓gq_chk, kchk_some, ↓gq_chkg, kgchk_TT, kgchk_FF, kgchk_TF, kgchk_FT, kgchk_tup, it_pos, it_neg, tdivN, tmodN, get_low, set_low, shl_u8, shr_u8, or_u8, and_u8, xor_u8, shl_u16, shr_u16, or_u16, and_u16, xor_u16, shl_u32, shr_u32, or_u32, and_u32, xor_u32, shl_u64, shr_u64, or_u64, and_u64, xor_u64, wb_u8, wb_u16, wb_u32, wb_u64, wb_i64, boxOf_box, boxOf_ice, growOf_grow, growOf_ice, pc_fptr, pc_ref, pc_eref, sc_nils, sc_sl, sc_own, sc_osl, sc_bsl, ll_nils, ll_sl, ll_own, ll_osl, ll_bsl, ld_str, ld_nils, ld_sl, ld_own, ld_osl, ld_bsl, src_str, src_nils, src_sl, src_own, src_osl, src_bsl, fa_fptr, fa_ref, fa_eref, so_nilp, so_fptr, so_ref, so_eref, so_nils, so_sl, so_own, so_osl, so_bsl, so_nilf, so_fn, so_nili, so_str, so_int, in_nilp, in_nils, in_nilf, in_nili, in_fn, in_fptr, in_sl, in_own, in_osl, in_bsl, in_ref, in_eref, la_agg, la_int, la_bool, la_str, la_nils, la_sl, la_own, la_osl, la_bsl, la_nilp, la_fptr, la_ref, la_eref, vc_agg, vc_int, vc_bool, vc_str, vc_nils, vc_sl, vc_own, vc_osl, vc_bsl, vc_nilp, vc_fptr, vc_ref, vc_eref, on_int, on_bool, on_str, on_nils, on_sl, on_own, on_osl, on_bsl, on_nilp, on_fptr, on_ref, on_eref, ea_sl, ea_own, ea_osl, ea_bsl, ss_nils, ss_sl, ss_own, ss_osl, ss_bsl, boxW_box, growW_grow, sa_ref, sa_eref, ap_nils, ap_sl, ap_own, ci_own, ci_osl, ci_bsl, eqk_b, eqk_i, eqk_s, packD_1, packD_2, packD_0, ↓reduceIte, hp_get, hp_get0, hp_set, hp_set0, hp_assoc, hp_len, hb_set0, hb_set1, hb_last, hb_cons, hb_nil, hb_get0, hb_get1, mk_bs, fill0, fill_c, splice1, splice_all, splice_rep, splice_reps, spliceN, len_rep, clen_set, clen_rep, clen_cons, clen_nil, clen_app, take_rep, all_rep_i, List.take_length, Nat.zero_add, List.drop_zero, List.drop_succ_cons, List.drop_nil, List.take_succ_cons, List.take_zero, List.take_nil, mnxD, eqCells, List.all_cons, List.all_nil, Bool.and_self, Bool.and_true, Bool.true_and, bytesOf_ofBytes, ofBytes_length, ofBytes_append, ofBytes_one, aop, ev, setD, List.set_cons_zero, List.set_cons_succ, set_0, get_0, set_1, get_1, set_2, get_2, set_3, get_3, set_4, get_4, set_5, get_5, set_6, get_6, set_7, get_7, set_8, get_8, ar_add, ar_sub, ar_mul, ar_quo, ar_rem, ar_eql, ar_neq, ar_lss, ar_leq, ar_gtr, ar_geq, as_add, as_eql, as_neq, idx_ok, bnd_no, bnd_ok, bnd_nat, Option.map_some, Option.map_none, Option.bind_some, List.map_cons, List.map_nil, List.append_nil, List.nil_append, List.cons_append, strSort, bs_size, bs_list, bs_extract, bs_append, loadCs, resD, unop, decide_true, decide_false, Bool.not_true, Bool.not_false, reduceCtorEq, Bool.true_eq_false, Bool.false_eq_true, not_true_eq_false, not_false_eq_true, false_implies, true_implies, imp_self, and_true, true_and, forall_const, decide_eq_true_eq, decide_eq_false_iff_not, decide_not, Bool.not_eq_true', Bool.not_eq_false', w_i64, w_u8, w_u16, w_u32, w_u64, List.length_cons, List.length_nil, Nat.reduceAdd, Nat.reduceSub, Nat.reducePow, Nat.reduceMul, Int.toNat_natCast, Int.cast_ofNat_Int, Nat.mul_one, Nat.reduceEqDiff, Nat.reduceLT, Nat.reduceLeDiff, Option.some.injEq, exists_eq_left', and_self, List.getElem?_cons_zero, List.getElem?_cons_succ, Int.reduceToNat, Int.reduceLT, Int.reduceLE, Int.reduceEq, Int.reduceNeg, Int.reduceAdd, Int.reduceSub, Int.reduceMul]
    refine ⟨hlt, ?_⟩
    have hb1 : D.int .i64 ((y % 2 : Nat) : Int) = bitD n k := by
      unfold bitD; rw [← hy, mod_bit hlt]
    have hb2 : D.int .i64 ((x % 2 : Nat) : Int) = bitD n (64 + k) := by
      unfold bitD; rw [← hx, div_bit]
    rw [show ((64 : Int) + (k : Int)).toNat = 64 + k by omega, bitsK_succ hlt hb1 hb2]
    rw [show n / 18446744073709551616 / 2 ^ (k + 1) = x / 2 by rw [← hx, Nat.pow_succ, ← Nat.div_div_eq_div_mul], show n % 18446744073709551616 / 2 ^ (k + 1) = y / 2 by rw [← hy, Nat.pow_succ, ← Nat.div_div_eq_div_mul]]
    exact junk rfl
  · have e1 : ¬ (k : Int) < 64 := by omega
    obtain rfl : k = 64 := by omega
    rw [show n / 18446744073709551616 / 2 ^ 64 = 0 from Nat.div_eq_of_lt (by omega), bitsK_64]
    have hone := bitsD_one n
    have hlen := bitsD_len n
    simp (disch := first | omega | (simp only [List.length_append, List.length_cons, List.length_nil]; omega)) only [c33r0, c33r1, c33r2, c33r3, c33r4, c33r5, c33r6, c33r7, c33l8, c33r9, e1, hone, List.take_of_length_le, ek_b, eq_self, ek_b, ek_i, ek_s, eq_bytes, ↓go_dregT, ↓po_seq, ↓po_seqE, ↓po_seqR, ↓po_tail, ↓po_k, ↓po_kE, ↓po_kR, ↓po_blk, ↓po_blkE, ↓po_blkE', ↓po_blkR, ↓po_endR, ↓po_endN, ↓go_skip, ↓go_reg, ↓go_seq, ↓go_cond, ↓go_block, ↓go_loop, ↓go_exit, ↓go_ret, ↓gc_T, ↓gc_F, ↓gs_nil, ↓gs_op, ↓gs_opg, ↓gs_call, ↓gs_callg, gop_some, gop_ite, ggrd_TT, ggrd_FF, ggrd_TF, ggrd_FT, ggrd_tup, ggcall_TT, ggcall_FF, ggcall_TF, ggcall_FT, ggcall_tup, gcall_fn, ↓gq_nil, ↓gq_op, ↓gq_opg, ↓gq_call, ↓gq_callg, kop_some, kop_ite, kgrd_TT, kgrd_FF, kgrd_TF, kgrd_FT, kgrd_tup, kgcall_TT, kgcall_FF, kgcall_TF, kgcall_FT, kgcall_tup, kcall_fn, ↓gq_callL, kcallL_fn, ↓gq_chk, kchk_some, ↓gq_chkg, kgchk_TT, kgchk_FF, kgchk_TF, kgchk_FT, kgchk_tup, it_pos, it_neg, tdivN, tmodN, get_low, set_low, shl_u8, shr_u8, or_u8, and_u8, xor_u8, shl_u16, shr_u16, or_u16, and_u16, xor_u16, shl_u32, shr_u32, or_u32, and_u32, xor_u32, shl_u64, shr_u64, or_u64, and_u64, xor_u64, wb_u8, wb_u16, wb_u32, wb_u64, wb_i64, boxOf_box, boxOf_ice, growOf_grow, growOf_ice, pc_fptr, pc_ref, pc_eref, sc_nils, sc_sl, sc_own, sc_osl, sc_bsl, ll_nils, ll_sl, ll_own, ll_osl, ll_bsl, ld_str, ld_nils, ld_sl, ld_own, ld_osl, ld_bsl, src_str, src_nils, src_sl, src_own, src_osl, src_bsl, fa_fptr, fa_ref, fa_eref, so_nilp, so_fptr, so_ref, so_eref, so_nils, so_sl, so_own, so_osl, so_bsl, so_nilf, so_fn, so_nili, so_str, so_int, in_nilp, in_nils, in_nilf, in_nili, in_fn, in_fptr, in_sl, in_own, in_osl, in_bsl, in_ref, in_eref, la_agg, la_int, la_bool, la_str, la_nils, la_sl, la_own, la_osl, la_bsl, la_nilp, la_fptr, la_ref, la_eref, vc_agg, vc_int, vc_bool, vc_str, vc_nils, vc_sl, vc_own, vc_osl, vc_bsl, vc_nilp, vc_fptr, vc_ref, vc_eref, on_int, on_bool, on_str, on_nils, on_sl, on_own, on_osl, on_bsl, on_nilp, on_fptr, on_ref, on_eref, ea_sl, ea_own, ea_osl, ea_bsl, ss_nils, ss_sl, ss_own, ss_osl, ss_bsl, boxW_box, growW_grow, sa_ref, sa_eref, ap_nils, ap_sl, ap_own, ci_own, ci_osl, ci_bsl, eqk_b, eqk_i, eqk_s, packD_1, packD_2, packD_0, ↓reduceIte, hp_get, hp_get0, hp_set, hp_set0, hp_assoc, hp_len, hb_set0, hb_set1, hb_last, hb_cons, hb_nil, hb_get0, hb_get1, mk_bs, fill0, fill_c, splice1, splice_all, splice_rep, splice_reps, spliceN, len_rep, clen_set, clen_rep, clen_cons, clen_nil, clen_app, take_rep, all_rep_i, List.take_length, Nat.zero_add, List.drop_zero, List.drop_succ_cons, List.drop_nil, List.take_succ_cons, List.take_zero, List.take_nil, mnxD, eqCells, List.all_cons, List.all_nil, Bool.and_self, Bool.and_true, Bool.true_and, bytesOf_ofBytes, ofBytes_length, ofBytes_append, ofBytes_one, aop, ev, setD, List.set_cons_zero, List.set_cons_succ, set_0, get_0, set_1, get_1, set_2, get_2, set_3, get_3, set_4, get_4, set_5, get_5, set_6, get_6, set_7, get_7, set_8, get_8, ar_add, ar_sub, ar_mul, ar_quo, ar_rem, ar_eql, ar_neq, ar_lss, ar_leq, ar_gtr, ar_geq, as_add, as_eql, as_neq, idx_ok, bnd_no, bnd_ok, bnd_nat, Option.map_some, Option.map_none, Option.bind_some, List.map_cons, List.map_nil, List.append_nil, List.nil_append, List.cons_append, strSort, bs_size, bs_list, bs_extract, bs_append, loadCs, resD, unop, decide_true, decide_false, Bool.not_true, Bool.not_false, reduceCtorEq, Bool.true_eq_false, Bool.false_eq_true, not_true_eq_false, not_false_eq_true, false_implies, true_implies, imp_self, and_true, true_and, forall_const, decide_eq_true_eq, decide_eq_false_iff_not, decide_not, Bool.not_eq_true', Bool.not_eq_false', w_i64, w_u8, w_u16, w_u32, w_u64, List.length_cons, List.length_nil, Nat.reduceAdd, Nat.reduceSub, Nat.reducePow, Nat.reduceMul, Int.toNat_natCast, Int.cast_ofNat_Int, Nat.mul_one, Nat.reduceEqDiff, Nat.reduceLT, Nat.reduceLeDiff, Option.some.injEq, exists_eq_left', and_self, List.getElem?_cons_zero, List.getElem?_cons_succ, Int.reduceToNat, Int.reduceLT, Int.reduceLE, Int.reduceEq, Int.reduceNeg, Int.reduceAdd, Int.reduceSub, Int.reduceMul]
    exact FinOk.drop (.inl rfl) (by simp [underL, underD, bitsD_under]) ⟨rfl, rfl⟩

theorem whole_fc (h : Heap) (n : Nat) (hn : n < 340282366920938463463374607431768211456) : FC Try.prog 38 [.agg (bitsD n)] h fun d h' => d = .agg (wideD n) ∧ h' = h := by
  refine FC.goes cf38 ?_; simp only [c38]; simp only [List.length_cons, List.length_nil, Nat.reduceAdd, Nat.reduceSub, List.replicate_succ, List.replicate_zero, List.cons_append, List.nil_append]
  have hlen := bitsD_len n
  have hone := bitsD_one n
  simp (disch := first | omega | (simp only [List.length_append, List.length_cons, List.length_nil]; omega)) only [c38r0, c38r1, c38r2, c38r3, c38r4, c38r5, c38r6, c38r7, c38r8, c38l9, c38r10, hone, ek_b, eq_self, ek_b, ek_i, ek_s, eq_bytes, ↓go_dregT, ↓po_seq, ↓po_seqE, ↓po_seqR, ↓po_tail, ↓po_k, ↓po_kE, ↓po_kR, ↓po_blk, ↓po_blkE, ↓po_blkE', ↓po_blkR, ↓po_endR, ↓po_endN, ↓go_skip, ↓go_reg, ↓go_seq, ↓go_cond, ↓go_block, ↓go_loop, ↓go_exit, ↓go_ret, ↓gc_T, ↓gc_F, ↓gs_nil, ↓gs_op, ↓gs_opg, ↓gs_call, ↓gs_callg, gop_some, gop_ite, ggrd_TT, ggrd_FF, ggrd_TF, ggrd_FT, ggrd_tup, ggcall_TT, ggcall_FF, ggcall_TF, ggcall_FT, ggcall_tup, gcall_fn, ↓gq_nil, ↓gq_op, ↓gq_opg, ↓gq_call, ↓gq_callg, kop_some, kop_ite, kgrd_TT, kgrd_FF, kgrd_TF, kgrd_FT, kgrd_tup, kgcall_TT, kgcall_FF, kgcall_TF, kgcall_FT, kgcall_tup, kcall_fn, ↓gq_callL, kcallL_fn, ↓gq_chk, kchk_some, ↓gq_chkg, kgchk_TT, kgchk_FF, kgchk_TF, kgchk_FT, kgchk_tup, it_pos, it_neg, tdivN, tmodN, get_low, set_low, shl_u8, shr_u8, or_u8, and_u8, xor_u8, shl_u16, shr_u16, or_u16, and_u16, xor_u16, shl_u32, shr_u32, or_u32, and_u32, xor_u32, shl_u64, shr_u64, or_u64, and_u64, xor_u64, wb_u8, wb_u16, wb_u32, wb_u64, wb_i64, boxOf_box, boxOf_ice, growOf_grow, growOf_ice, pc_fptr, pc_ref, pc_eref, sc_nils, sc_sl, sc_own, sc_osl, sc_bsl, ll_nils, ll_sl, ll_own, ll_osl, ll_bsl, ld_str, ld_nils, ld_sl, ld_own, ld_osl, ld_bsl, src_str, src_nils, src_sl, src_own, src_osl, src_bsl, fa_fptr, fa_ref, fa_eref, so_nilp, so_fptr, so_ref, so_eref, so_nils, so_sl, so_own, so_osl, so_bsl, so_nilf, so_fn, so_nili, so_str, so_int, in_nilp, in_nils, in_nilf, in_nili, in_fn, in_fptr, in_sl, in_own, in_osl, in_bsl, in_ref, in_eref, la_agg, la_int, la_bool, la_str, la_nils, la_sl, la_own, la_osl, la_bsl, la_nilp, la_fptr, la_ref, la_eref, vc_agg, vc_int, vc_bool, vc_str, vc_nils, vc_sl, vc_own, vc_osl, vc_bsl, vc_nilp, vc_fptr, vc_ref, vc_eref, on_int, on_bool, on_str, on_nils, on_sl, on_own, on_osl, on_bsl, on_nilp, on_fptr, on_ref, on_eref, ea_sl, ea_own, ea_osl, ea_bsl, ss_nils, ss_sl, ss_own, ss_osl, ss_bsl, boxW_box, growW_grow, sa_ref, sa_eref, ap_nils, ap_sl, ap_own, ci_own, ci_osl, ci_bsl, eqk_b, eqk_i, eqk_s, packD_1, packD_2, packD_0, ↓reduceIte, hp_get, hp_get0, hp_set, hp_set0, hp_assoc, hp_len, hb_set0, hb_set1, hb_last, hb_cons, hb_nil, hb_get0, hb_get1, mk_bs, fill0, fill_c, splice1, splice_all, splice_rep, splice_reps, spliceN, len_rep, clen_set, clen_rep, clen_cons, clen_nil, clen_app, take_rep, all_rep_i, List.take_length, Nat.zero_add, List.drop_zero, List.drop_succ_cons, List.drop_nil, List.take_succ_cons, List.take_zero, List.take_nil, mnxD, eqCells, List.all_cons, List.all_nil, Bool.and_self, Bool.and_true, Bool.true_and, bytesOf_ofBytes, ofBytes_length, ofBytes_append, ofBytes_one, aop, ev, setD, List.set_cons_zero, List.set_cons_succ, set_0, get_0, set_1, get_1, set_2, get_2, set_3, get_3, set_4, get_4, set_5, get_5, set_6, get_6, set_7, get_7, set_8, get_8, ar_add, ar_sub, ar_mul, ar_quo, ar_rem, ar_eql, ar_neq, ar_lss, ar_leq, ar_gtr, ar_geq, as_add, as_eql, as_neq, idx_ok, bnd_no, bnd_ok, bnd_nat, Option.map_some, Option.map_none, Option.bind_some, List.map_cons, List.map_nil, List.append_nil, List.nil_append, List.cons_append, strSort, bs_size, bs_list, bs_extract, bs_append, loadCs, resD, unop, decide_true, decide_false, Bool.not_true, Bool.not_false, reduceCtorEq, Bool.true_eq_false, Bool.false_eq_true, not_true_eq_false, not_false_eq_true, false_implies, true_implies, imp_self, and_true, true_and, forall_const, decide_eq_true_eq, decide_eq_false_iff_not, decide_not, Bool.not_eq_true', Bool.not_eq_false', w_i64, w_u8, w_u16, w_u32, w_u64, List.length_cons, List.length_nil, Nat.reduceAdd, Nat.reduceSub, Nat.reducePow, Nat.reduceMul, Int.toNat_natCast, Int.cast_ofNat_Int, Nat.mul_one, Nat.reduceEqDiff, Nat.reduceLT, Nat.reduceLeDiff, Option.some.injEq, exists_eq_left', and_self, List.getElem?_cons_zero, List.getElem?_cons_succ, Int.reduceToNat, Int.reduceLT, Int.reduceLE, Int.reduceEq, Int.reduceNeg, Int.reduceAdd, Int.reduceSub, Int.reduceMul]
  refine loop_to 64 (fun k st => ∃ j : Nat → D, st = ⟨(j 0 :: .ref h.length 0 :: .ref (h.length + 1) 0 :: .ref (h.length + 2) 0 :: .int .i64 (63 - k) :: j 5 :: j 6 :: j 7 :: j 8 :: j 9 :: j 10 :: j 11 :: j 12 :: j 13 :: j 14 :: j 15 :: j 16 :: j 17 :: j 18 :: j 19 :: j 20 :: j 21 :: j 22 :: j 23 :: j 24 :: j 25 :: j 26 :: j 27 :: j 28 :: []), h ++ [.box (bitsD n), .box [.int .u64 0, .int .u64 0], .box [.int .u64 ((n / 18446744073709551616 / 2 ^ (64 - k) : Nat) : Int), .int .u64 ((n % 18446744073709551616 / 2 ^ (64 - k) : Nat) : Int)]]⟩) (by
    rw [show n / 18446744073709551616 / 2 ^ (64 - 0) = 0 from Nat.div_eq_of_lt (by omega), show n % 18446744073709551616 / 2 ^ (64 - 0) = 0 from Nat.div_eq_of_lt (by omega)]; exact junk rfl) ?_
  rintro k st hk ⟨j, rfl⟩
  by_cases hlt : k < 64
  · obtain ⟨i, hi, hki⟩ : ∃ i, i < 64 ∧ k = 63 - i := ⟨63 - k, by omega, by omega⟩
    subst hki
    have c1 : (63 : Int) - ((63 - i : Nat) : Int) = (i : Int) := by omega
    have c2 : 64 - (63 - i) = i + 1 := by omega
    have c3 : 64 - (63 - i + 1) = i := by omega
    rw [c1, c2, c3] at *
    have g1 := half (m := n / 18446744073709551616) (i := i)
    have g2 := half (m := n % 18446744073709551616) (i := i)
    have q1 : n / 18446744073709551616 / 2 ^ i < 18446744073709551616 := Nat.lt_of_le_of_lt (Nat.div_le_self _ _) (by omega)
    have q2 : n % 18446744073709551616 / 2 ^ i < 18446744073709551616 := Nat.lt_of_le_of_lt (Nat.div_le_self _ _) (by omega)
    have b1 : (List.drop i (bitsD n))[0]? = some (.int .i64 ((n % 18446744073709551616 / 2 ^ i % 2 : Nat) : Int)) := by rw [drop_get (by omega), mod_bit hi]
    have b2 : (List.drop (64 + i) (bitsD n))[0]? = some (.int .i64 ((n / 18446744073709551616 / 2 ^ i % 2 : Nat) : Int)) := by rw [drop_get (by omega), div_bit]
    generalize n / 18446744073709551616 / 2 ^ (i + 1) = X at *
    generalize n % 18446744073709551616 / 2 ^ (i + 1) = Y at *
    generalize n / 18446744073709551616 / 2 ^ i = x at *
    generalize n % 18446744073709551616 / 2 ^ i = y at *
    have t1 : ((64 : Int) + (i : Int)).toNat = 64 + i := by omega
    have e1 : (0 : Int) ≤ (i : Int) := by omega
    simp (disch := first | omega | (simp only [List.length_append, List.length_cons, List.length_nil]; omega)) only [c38r0, c38r1, c38r2, c38r3, c38r4, c38r5, c38r6, c38r7, c38r8, c38l9, c38r10, e1, b1, b2, t1, ek_b, eq_self, ek_b, ek_i, ek_s, eq_bytes, ↓go_dregT, ↓po_seq, ↓po_seqE, ↓po_seqR, ↓po_tail, ↓po_k, ↓po_kE, ↓po_kR, ↓po_blk, ↓po_blkE, ↓po_blkE', ↓po_blkR, ↓po_endR, ↓po_endN, ↓go_skip, ↓go_reg, ↓go_seq, ↓go_cond, ↓go_block, ↓go_loop, ↓go_exit, ↓go_ret, ↓gc_T, ↓gc_F, ↓gs_nil, ↓gs_op, ↓gs_opg, ↓gs_call, ↓gs_callg, gop_some, gop_ite, ggrd_TT, ggrd_FF, ggrd_TF, ggrd_FT, ggrd_tup, ggcall_TT, ggcall_FF, ggcall_TF, ggcall_FT, ggcall_tup, gcall_fn, ↓gq_nil, ↓gq_op, ↓gq_opg, ↓gq_call, ↓gq_callg, kop_some, kop_ite, kgrd_TT, kgrd_FF, kgrd_TF, kgrd_FT, kgrd_tup, kgcall_TT, kgcall_FF, kgcall_TF, kgcall_FT, kgcall_tup, kcall_fn, ↓gq_callL, kcallL_fn, ↓gq_chk, kchk_some, ↓gq_chkg, kgchk_TT, kgchk_FF, kgchk_TF, kgchk_FT, kgchk_tup, it_pos, it_neg, tdivN, tmodN, get_low, set_low, shl_u8, shr_u8, or_u8, and_u8, xor_u8, shl_u16, shr_u16, or_u16, and_u16, xor_u16, shl_u32, shr_u32, or_u32, and_u32, xor_u32, shl_u64, shr_u64, or_u64, and_u64, xor_u64, wb_u8, wb_u16, wb_u32, wb_u64, wb_i64, boxOf_box, boxOf_ice, growOf_grow, growOf_ice, pc_fptr, pc_ref, pc_eref, sc_nils, sc_sl, sc_own, sc_osl, sc_bsl, ll_nils, ll_sl, ll_own, ll_osl, ll_bsl, ld_str, ld_nils, ld_sl, ld_own, ld_osl, ld_bsl, src_str, src_nils, src_sl, src_own, src_osl, src_bsl, fa_fptr, fa_ref, fa_eref, so_nilp, so_fptr, so_ref, so_eref, so_nils, so_sl, so_own, so_osl, so_bsl, so_nilf, so_fn, so_nili, so_str, so_int, in_nilp, in_nils, in_nilf, in_nili, in_fn, in_fptr, in_sl, in_own, in_osl, in_bsl, in_ref, in_eref, la_agg, la_int, la_bool, la_str, la_nils, la_sl, la_own, la_osl, la_bsl, la_nilp, la_fptr, la_ref, la_eref, vc_agg, vc_int, vc_bool, vc_str, vc_nils, vc_sl, vc_own, vc_osl, vc_bsl, vc_nilp, vc_fptr, vc_ref, vc_eref, on_int, on_bool, on_str, on_nils, on_sl, on_own, on_osl, on_bsl, on_nilp, on_fptr, on_ref, on_eref, ea_sl, ea_own, ea_osl, ea_bsl, ss_nils, ss_sl, ss_own, ss_osl, ss_bsl, boxW_box, growW_grow, sa_ref, sa_eref, ap_nils, ap_sl, ap_own, ci_own, ci_osl, ci_bsl, eqk_b, eqk_i, eqk_s, packD_1, packD_2, packD_0, ↓reduceIte, hp_get, hp_get0, hp_set, hp_set0, hp_assoc, hp_len, hb_set0, hb_set1, hb_last, hb_cons, hb_nil, hb_get0, hb_get1, mk_bs, fill0, fill_c, splice1, splice_all, splice_rep, splice_reps, spliceN, len_rep, clen_set, clen_rep, clen_cons, clen_nil, clen_app, take_rep, all_rep_i, List.take_length, Nat.zero_add, List.drop_zero, List.drop_succ_cons, List.drop_nil, List.take_succ_cons, List.take_zero, List.take_nil, mnxD, eqCells, List.all_cons, List.all_nil, Bool.and_self, Bool.and_true, Bool.true_and, bytesOf_ofBytes, ofBytes_length, ofBytes_append, ofBytes_one, aop, ev, setD, List.set_cons_zero, List.set_cons_succ, set_0, get_0, set_1, get_1, set_2, get_2, set_3, get_3, set_4, get_4, set_5, get_5, set_6, get_6, set_7, get_7, set_8, get_8, ar_add, ar_sub, ar_mul, ar_quo, ar_rem, ar_eql, ar_neq, ar_lss, ar_leq, ar_gtr, ar_geq, as_add, as_eql, as_neq, idx_ok, bnd_no, bnd_ok, bnd_nat, Option.map_some, Option.map_none, Option.bind_some, List.map_cons, List.map_nil, List.append_nil, List.nil_append, List.cons_append, strSort, bs_size, bs_list, bs_extract, bs_append, loadCs, resD, unop, decide_true, decide_false, Bool.not_true, Bool.not_false, reduceCtorEq, Bool.true_eq_false, Bool.false_eq_true, not_true_eq_false, not_false_eq_true, false_implies, true_implies, imp_self, and_true, true_and, forall_const, decide_eq_true_eq, decide_eq_false_iff_not, decide_not, Bool.not_eq_true', Bool.not_eq_false', w_i64, w_u8, w_u16, w_u32, w_u64, List.length_cons, List.length_nil, Nat.reduceAdd, Nat.reduceSub, Nat.reducePow, Nat.reduceMul, Int.toNat_natCast, Int.cast_ofNat_Int, Nat.mul_one, Nat.reduceEqDiff, Nat.reduceLT, Nat.reduceLeDiff, Option.some.injEq, exists_eq_left', and_self, List.getElem?_cons_zero, List.getElem?_cons_succ, Int.reduceToNat, Int.reduceLT, Int.reduceLE, Int.reduceEq, Int.reduceNeg, Int.reduceAdd, Int.reduceSub, Int.reduceMul]
    refine ⟨by omega, ?_⟩
    rw [show (X : Int) * 2 + ((x % 2 : Nat) : Int) = (x : Int) by omega, show (Y : Int) * 2 + ((y % 2 : Nat) : Int) = (y : Int) by omega, show (63 : Int) - ((63 - i + 1 : Nat) : Int) = (i : Int) - 1 by omega]
    exact junk rfl
  · have e1 : ¬ (0 : Int) ≤ 63 - (k : Int) := by omega
    obtain rfl : k = 64 := by omega
    simp (disch := first | omega | (simp only [List.length_append, List.length_cons, List.length_nil]; omega)) only [c38r0, c38r1, c38r2, c38r3, c38r4, c38r5, c38r6, c38r7, c38r8, c38l9, c38r10, e1, ek_b, eq_self, ek_b, ek_i, ek_s, eq_bytes, ↓go_dregT, ↓po_seq, ↓po_seqE, ↓po_seqR, ↓po_tail, ↓po_k, ↓po_kE, ↓po_kR, ↓po_blk, ↓po_blkE, ↓po_blkE', ↓po_blkR, ↓po_endR, ↓po_endN, ↓go_skip, ↓go_reg, ↓go_seq, ↓go_cond, ↓go_block, ↓go_loop, ↓go_exit, ↓go_ret, ↓gc_T, ↓gc_F, ↓gs_nil, ↓gs_op, ↓gs_opg, ↓gs_call, ↓gs_callg, gop_some, gop_ite, ggrd_TT, ggrd_FF, ggrd_TF, ggrd_FT, ggrd_tup, ggcall_TT, ggcall_FF, ggcall_TF, ggcall_FT, ggcall_tup, gcall_fn, ↓gq_nil, ↓gq_op, ↓gq_opg, ↓gq_call, ↓gq_callg, kop_some, kop_ite, kgrd_TT, kgrd_FF, kgrd_TF, kgrd_FT, kgrd_tup, kgcall_TT, kgcall_FF, kgcall_TF, kgcall_FT, kgcall_tup, kcall_fn, ↓gq_callL, kcallL_fn, ↓gq_chk, kchk_some, ↓gq_chkg, kgchk_TT, kgchk_FF, kgchk_TF, kgchk_FT, kgchk_tup, it_pos, it_neg, tdivN, tmodN, get_low, set_low, shl_u8, shr_u8, or_u8, and_u8, xor_u8, shl_u16, shr_u16, or_u16, and_u16, xor_u16, shl_u32, shr_u32, or_u32, and_u32, xor_u32, shl_u64, shr_u64, or_u64, and_u64, xor_u64, wb_u8, wb_u16, wb_u32, wb_u64, wb_i64, boxOf_box, boxOf_ice, growOf_grow, growOf_ice, pc_fptr, pc_ref, pc_eref, sc_nils, sc_sl, sc_own, sc_osl, sc_bsl, ll_nils, ll_sl, ll_own, ll_osl, ll_bsl, ld_str, ld_nils, ld_sl, ld_own, ld_osl, ld_bsl, src_str, src_nils, src_sl, src_own, src_osl, src_bsl, fa_fptr, fa_ref, fa_eref, so_nilp, so_fptr, so_ref, so_eref, so_nils, so_sl, so_own, so_osl, so_bsl, so_nilf, so_fn, so_nili, so_str, so_int, in_nilp, in_nils, in_nilf, in_nili, in_fn, in_fptr, in_sl, in_own, in_osl, in_bsl, in_ref, in_eref, la_agg, la_int, la_bool, la_str, la_nils, la_sl, la_own, la_osl, la_bsl, la_nilp, la_fptr, la_ref, la_eref, vc_agg, vc_int, vc_bool, vc_str, vc_nils, vc_sl, vc_own, vc_osl, vc_bsl, vc_nilp, vc_fptr, vc_ref, vc_eref, on_int, on_bool, on_str, on_nils, on_sl, on_own, on_osl, on_bsl, on_nilp, on_fptr, on_ref, on_eref, ea_sl, ea_own, ea_osl, ea_bsl, ss_nils, ss_sl, ss_own, ss_osl, ss_bsl, boxW_box, growW_grow, sa_ref, sa_eref, ap_nils, ap_sl, ap_own, ci_own, ci_osl, ci_bsl, eqk_b, eqk_i, eqk_s, packD_1, packD_2, packD_0, ↓reduceIte, hp_get, hp_get0, hp_set, hp_set0, hp_assoc, hp_len, hb_set0, hb_set1, hb_last, hb_cons, hb_nil, hb_get0, hb_get1, mk_bs, fill0, fill_c, splice1, splice_all, splice_rep, splice_reps, spliceN, len_rep, clen_set, clen_rep, clen_cons, clen_nil, clen_app, take_rep, all_rep_i, List.take_length, Nat.zero_add, List.drop_zero, List.drop_succ_cons, List.drop_nil, List.take_succ_cons, List.take_zero, List.take_nil, mnxD, eqCells, List.all_cons, List.all_nil, Bool.and_self, Bool.and_true, Bool.true_and, bytesOf_ofBytes, ofBytes_length, ofBytes_append, ofBytes_one, aop, ev, setD, List.set_cons_zero, List.set_cons_succ, set_0, get_0, set_1, get_1, set_2, get_2, set_3, get_3, set_4, get_4, set_5, get_5, set_6, get_6, set_7, get_7, set_8, get_8, ar_add, ar_sub, ar_mul, ar_quo, ar_rem, ar_eql, ar_neq, ar_lss, ar_leq, ar_gtr, ar_geq, as_add, as_eql, as_neq, idx_ok, bnd_no, bnd_ok, bnd_nat, Option.map_some, Option.map_none, Option.bind_some, List.map_cons, List.map_nil, List.append_nil, List.nil_append, List.cons_append, strSort, bs_size, bs_list, bs_extract, bs_append, loadCs, resD, unop, decide_true, decide_false, Bool.not_true, Bool.not_false, reduceCtorEq, Bool.true_eq_false, Bool.false_eq_true, not_true_eq_false, not_false_eq_true, false_implies, true_implies, imp_self, and_true, true_and, forall_const, decide_eq_true_eq, decide_eq_false_iff_not, decide_not, Bool.not_eq_true', Bool.not_eq_false', w_i64, w_u8, w_u16, w_u32, w_u64, List.length_cons, List.length_nil, Nat.reduceAdd, Nat.reduceSub, Nat.reducePow, Nat.reduceMul, Int.toNat_natCast, Int.cast_ofNat_Int, Nat.mul_one, Nat.reduceEqDiff, Nat.reduceLT, Nat.reduceLeDiff, Option.some.injEq, exists_eq_left', and_self, List.getElem?_cons_zero, List.getElem?_cons_succ, Int.reduceToNat, Int.reduceLT, Int.reduceLE, Int.reduceEq, Int.reduceNeg, Int.reduceAdd, Int.reduceSub, Int.reduceMul]
    exact FinOk.drop (.inl rfl) (by simp [underL, underD, wideD]) ⟨by simp [packD, wideD], rfl⟩

theorem wof_fc (h : Heap) (n : Nat) (hn : n < 18446744073709551616) : FC Try.prog 35 [.int .u64 (n : Int)] h fun d h' => d = .agg (wideD n) ∧ h' = h := by
  refine FC.goes cf35 ?_; simp only [c35]; simp only [List.length_cons, List.length_nil, Nat.reduceAdd, Nat.reduceSub, List.replicate_succ, List.replicate_zero, List.cons_append, List.nil_append]
  simp (disch := first | omega | (simp only [List.length_append, List.length_cons, List.length_nil]; omega)) only [c35r0, c35r1, ek_b, eq_self, ek_b, ek_i, ek_s, eq_bytes, ↓go_dregT, ↓po_seq, ↓po_seqE, ↓po_seqR, ↓po_tail, ↓po_k, ↓po_kE, ↓po_kR, ↓po_blk, ↓po_blkE, ↓po_blkE', ↓po_blkR, ↓po_endR, ↓po_endN, ↓go_skip, ↓go_reg, ↓go_seq, ↓go_cond, ↓go_block, ↓go_loop, ↓go_exit, ↓go_ret, ↓gc_T, ↓gc_F, ↓gs_nil, ↓gs_op, ↓gs_opg, ↓gs_call, ↓gs_callg, gop_some, gop_ite, ggrd_TT, ggrd_FF, ggrd_TF, ggrd_FT, ggrd_tup, ggcall_TT, ggcall_FF, ggcall_TF, ggcall_FT, ggcall_tup, gcall_fn, ↓gq_nil, ↓gq_op, ↓gq_opg, ↓gq_call, ↓gq_callg, kop_some, kop_ite, kgrd_TT, kgrd_FF, kgrd_TF, kgrd_FT, kgrd_tup, kgcall_TT, kgcall_FF, kgcall_TF, kgcall_FT, kgcall_tup, kcall_fn, ↓gq_callL, kcallL_fn, ↓gq_chk, kchk_some, ↓gq_chkg, kgchk_TT, kgchk_FF, kgchk_TF, kgchk_FT, kgchk_tup, it_pos, it_neg, tdivN, tmodN, get_low, set_low, shl_u8, shr_u8, or_u8, and_u8, xor_u8, shl_u16, shr_u16, or_u16, and_u16, xor_u16, shl_u32, shr_u32, or_u32, and_u32, xor_u32, shl_u64, shr_u64, or_u64, and_u64, xor_u64, wb_u8, wb_u16, wb_u32, wb_u64, wb_i64, boxOf_box, boxOf_ice, growOf_grow, growOf_ice, pc_fptr, pc_ref, pc_eref, sc_nils, sc_sl, sc_own, sc_osl, sc_bsl, ll_nils, ll_sl, ll_own, ll_osl, ll_bsl, ld_str, ld_nils, ld_sl, ld_own, ld_osl, ld_bsl, src_str, src_nils, src_sl, src_own, src_osl, src_bsl, fa_fptr, fa_ref, fa_eref, so_nilp, so_fptr, so_ref, so_eref, so_nils, so_sl, so_own, so_osl, so_bsl, so_nilf, so_fn, so_nili, so_str, so_int, in_nilp, in_nils, in_nilf, in_nili, in_fn, in_fptr, in_sl, in_own, in_osl, in_bsl, in_ref, in_eref, la_agg, la_int, la_bool, la_str, la_nils, la_sl, la_own, la_osl, la_bsl, la_nilp, la_fptr, la_ref, la_eref, vc_agg, vc_int, vc_bool, vc_str, vc_nils, vc_sl, vc_own, vc_osl, vc_bsl, vc_nilp, vc_fptr, vc_ref, vc_eref, on_int, on_bool, on_str, on_nils, on_sl, on_own, on_osl, on_bsl, on_nilp, on_fptr, on_ref, on_eref, ea_sl, ea_own, ea_osl, ea_bsl, ss_nils, ss_sl, ss_own, ss_osl, ss_bsl, boxW_box, growW_grow, sa_ref, sa_eref, ap_nils, ap_sl, ap_own, ci_own, ci_osl, ci_bsl, eqk_b, eqk_i, eqk_s, packD_1, packD_2, packD_0, ↓reduceIte, hp_get, hp_get0, hp_set, hp_set0, hp_assoc, hp_len, hb_set0, hb_set1, hb_last, hb_cons, hb_nil, hb_get0, hb_get1, mk_bs, fill0, fill_c, splice1, splice_all, splice_rep, splice_reps, spliceN, len_rep, clen_set, clen_rep, clen_cons, clen_nil, clen_app, take_rep, all_rep_i, List.take_length, Nat.zero_add, List.drop_zero, List.drop_succ_cons, List.drop_nil, List.take_succ_cons, List.take_zero, List.take_nil, mnxD, eqCells, List.all_cons, List.all_nil, Bool.and_self, Bool.and_true, Bool.true_and, bytesOf_ofBytes, ofBytes_length, ofBytes_append, ofBytes_one, aop, ev, setD, List.set_cons_zero, List.set_cons_succ, set_0, get_0, set_1, get_1, set_2, get_2, set_3, get_3, set_4, get_4, set_5, get_5, set_6, get_6, set_7, get_7, set_8, get_8, ar_add, ar_sub, ar_mul, ar_quo, ar_rem, ar_eql, ar_neq, ar_lss, ar_leq, ar_gtr, ar_geq, as_add, as_eql, as_neq, idx_ok, bnd_no, bnd_ok, bnd_nat, Option.map_some, Option.map_none, Option.bind_some, List.map_cons, List.map_nil, List.append_nil, List.nil_append, List.cons_append, strSort, bs_size, bs_list, bs_extract, bs_append, loadCs, resD, unop, decide_true, decide_false, Bool.not_true, Bool.not_false, reduceCtorEq, Bool.true_eq_false, Bool.false_eq_true, not_true_eq_false, not_false_eq_true, false_implies, true_implies, imp_self, and_true, true_and, forall_const, decide_eq_true_eq, decide_eq_false_iff_not, decide_not, Bool.not_eq_true', Bool.not_eq_false', w_i64, w_u8, w_u16, w_u32, w_u64, List.length_cons, List.length_nil, Nat.reduceAdd, Nat.reduceSub, Nat.reducePow, Nat.reduceMul, Int.toNat_natCast, Int.cast_ofNat_Int, Nat.mul_one, Nat.reduceEqDiff, Nat.reduceLT, Nat.reduceLeDiff, Option.some.injEq, exists_eq_left', and_self, List.getElem?_cons_zero, List.getElem?_cons_succ, Int.reduceToNat, Int.reduceLT, Int.reduceLE, Int.reduceEq, Int.reduceNeg, Int.reduceAdd, Int.reduceSub, Int.reduceMul]
  exact FinOk.drop (.inl rfl) (by simp [underL, underD, wideD]) ⟨by simp [packD, wideD, Nat.div_eq_of_lt hn, Nat.mod_eq_of_lt hn], rfl⟩
end Go.Proofs
