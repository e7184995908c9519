/-
  Own work. The value machine, part Z: the set of lemmas of a walk, under one name.
-/
import Derived.Test.YtodlpcoffmnmbaaDoorVy
import Derived.Test.YtodlpcoffmnmbaaDoorVv
namespace Go.YtodlpcoffmnmbaaDoor
open Go Go.Proofs
attribute [go_sem ↓] go_dregT po_seq po_seqE po_seqR po_tail po_k po_kE po_kR po_blk po_blkE po_blkE' po_blkR po_endR po_endN po_sc po_scE po_scR go_scope go_skip go_reg go_seq go_cond go_block go_loop go_exit
    go_ret gc_T gc_F gs_nil gs_op gs_opg gs_call gs_callg gs_callG gs_callGg gq_nil gq_op gq_opg gq_call gq_callg gq_callL gq_callW gq_chk gq_chkg go_rfunc po_rN po_rE po_rR gcall_yv
attribute [go_sem] ek_b eq_self ek_i ek_s eq_bytes gop_some gop_ite ggrd_TT ggrd_FF ggrd_TF ggrd_FT ggrd_tup ggcall_TT ggcall_FF ggcall_TF ggcall_FT ggcall_tup gcall_fn kop_some
    kop_ite kgrd_TT kgrd_FF kgrd_TF kgrd_FT kgrd_tup kgcall_TT kgcall_FF kgcall_TF kgcall_FT kgcall_tup kcall_fn kcallL_fn kcallW_fn xgcall_TT xgcall_FF xgcall_TF xgcall_FT xgcall_tup xcall_fn kchk_some kgchk_TT kgchk_FF kgchk_TF kgchk_FT kgchk_tup
    it_pos it_neg tdivN tmodN get_low set_low shl_u8 shr_u8 or_u8 and_u8 xor_u8 shl_u16 shr_u16 or_u16 and_u16 xor_u16 shl_u32 shr_u32 or_u32 and_u32 xor_u32 shl_u64 shr_u64 or_u64
    and_u64 xor_u64 wb_u8 wb_u16 wb_u32 wb_u64 wb_i64 boxOf_box boxOf_ice growOf_grow growOf_ice pc_fptr pc_ref pc_eref sc_nils sc_sl sc_own sc_osl sc_bsl ll_nils ll_sl ll_own
    ll_osl ll_bsl ld_str ld_nils ld_sl ld_own ld_osl ld_bsl src_str src_nils src_sl src_own src_osl src_bsl fa_fptr fa_ref fa_eref so_nilp so_fptr so_ref so_eref so_nils so_sl
    so_own so_osl so_bsl so_nilf so_fn so_nili so_str so_int in_nilp in_nils in_nilf in_nili in_fn in_fptr in_sl in_own in_osl in_bsl in_ref in_eref la_agg la_int la_bool la_str
    la_nils la_sl la_own la_osl la_bsl la_nilp la_fptr la_ref la_eref la_mref la_nilm vc_mref vc_nilm on_mref on_nilm fm_some fm_none pm_some pm_none vc_agg vc_int vc_bool vc_str vc_nils vc_sl vc_own vc_osl vc_bsl vc_nilp vc_fptr vc_ref vc_eref on_int on_bool
    on_str on_nils on_sl on_own on_osl on_bsl on_nilp on_fptr on_ref on_eref ea_sl ea_own ea_osl ea_bsl ss_nils ss_sl ss_own ss_osl ss_bsl boxW_box growW_grow sa_ref sa_eref ap_nils
    ap_sl ap_own ci_own ci_osl ci_bsl eqk_b eqk_i eqk_s packD_1 packD_2 packD_0 hp_get hp_get0 hp_set hp_set0 hp_assoc hp_len hb_set0 hb_set1 hb_last hb_cons hb_nil hb_get0 hb_get1
    mk_bs fill0 splice1 splice_all splice_rep splice_reps spliceN len_rep clen_set clen_rep clen_cons clen_nil clen_app take_rep all_rep_i List.take_length Nat.zero_add
    List.drop_zero List.drop_succ_cons List.drop_nil List.take_succ_cons List.take_zero List.take_nil mnxD eqCells List.all_cons List.all_nil Bool.and_self Bool.and_true
    Bool.true_and bytesOf_ofBytes ofBytes_length ofBytes_append ofBytes_one aop ev setD List.set_cons_zero List.set_cons_succ set_0 get_0 set_1 get_1 set_2 get_2 set_3 get_3 set_4
    get_4 set_5 get_5 set_6 get_6 set_7 get_7 set_8 get_8 ar_add ar_sub ar_mul ar_quo ar_rem ar_eql ar_neq ar_lss ar_leq ar_gtr ar_geq as_add as_eql as_neq idx_ok bnd_no bnd_ok
    bnd_nat Option.map_some Option.map_none Option.bind_some List.map_cons List.map_nil List.append_nil List.nil_append List.cons_append strSort bs_size bs_list bs_extract bs_append
    loadCs resD unop decide_true decide_false Bool.not_true Bool.not_false beq_self_eq_true Bool.true_eq_false Bool.false_eq_true not_true_eq_false not_false_eq_true false_implies
    true_implies imp_self and_true true_and forall_const decide_eq_true_eq decide_eq_false_iff_not decide_not Bool.not_eq_true' Bool.not_eq_false' w_i64 w_u8 w_u16 w_u32 w_u64
    List.length_cons List.length_nil Int.toNat_natCast Int.cast_ofNat_Int Nat.mul_one Option.some.injEq exists_eq_left' and_self List.getElem?_cons_zero List.getElem?_cons_succ
end Go.YtodlpcoffmnmbaaDoor
