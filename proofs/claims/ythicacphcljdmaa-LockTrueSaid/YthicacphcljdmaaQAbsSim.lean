/- A part of the proofs over this seat. -/
import Derived.Test.YthicacphcljdmaaQAbsRd
namespace Go.Abs
set_option maxRecDepth 100000
/-! The rules by which a walk goes, as few names -/
theorem zaa : type_of% @List.map_cons := @List.map_cons
theorem zab : type_of% @List.map_nil := @List.map_nil
theorem zac : type_of% @List.length_cons := @List.length_cons
theorem zad : type_of% @List.length_nil := @List.length_nil
theorem zae : type_of% @List.getD_cons_zero := @List.getD_cons_zero
theorem zaf : type_of% @List.getD_cons_succ := @List.getD_cons_succ
theorem zag : type_of% @List.set_cons_zero := @List.set_cons_zero
theorem zah : type_of% @List.set_cons_succ := @List.set_cons_succ
theorem zai : type_of% @List.set_nil := @List.set_nil
theorem zaj : type_of% @List.cons_append := @List.cons_append
theorem zak : type_of% @List.nil_append := @List.nil_append
theorem zal : type_of% @Int.toNat_natCast := @Int.toNat_natCast
theorem zam : type_of% @List.getElem?_cons_zero := @List.getElem?_cons_zero
theorem zan : type_of% @List.getElem?_cons_succ := @List.getElem?_cons_succ
theorem zao : type_of% @Option.map_some := @Option.map_some
theorem zap : type_of% @Option.bind_some := @Option.bind_some
theorem zaq : type_of% @List.drop_zero := @List.drop_zero
theorem zar : type_of% @List.drop_succ_cons := @List.drop_succ_cons
theorem zas : type_of% @List.take_succ_cons := @List.take_succ_cons
theorem zat : type_of% @List.take_zero := @List.take_zero
theorem zau : type_of% @List.length_map := @List.length_map
theorem zav : type_of% @if_true := @if_true
theorem zaw : type_of% @if_false := @if_false
theorem zax : type_of% @and_true := @and_true
theorem zay : type_of% @true_and := @true_and
theorem zaz : type_of% @Bool.true_eq_false := @Bool.true_eq_false
theorem zba : type_of% @Bool.false_eq_true := @Bool.false_eq_true
theorem zbb : type_of% @forall_const := @forall_const
theorem zbc : type_of% @true_implies := @true_implies
theorem zbd : type_of% @false_implies := @false_implies
theorem zbe : type_of% @implies_true := @implies_true
theorem zbf : type_of% @decide_true := @decide_true
theorem zbg : type_of% @decide_false := @decide_false
theorem zbh : type_of% @beq_self_eq_true := @beq_self_eq_true
theorem zbi : type_of% @Option.getD_some := @Option.getD_some
theorem zbj : type_of% @Nat.zero_add := @Nat.zero_add
theorem zbk : type_of% @Nat.add_zero := @Nat.add_zero
theorem zbl : type_of% @List.take_nil := @List.take_nil
theorem zbm : type_of% @List.drop_nil := @List.drop_nil
theorem zbn : type_of% @List.append_nil := @List.append_nil
theorem zbo : type_of% @Bool.and_self := @Bool.and_self
theorem zbp : type_of% @Bool.and_true := @Bool.and_true
theorem zbq : type_of% @Bool.true_and := @Bool.true_and
theorem zbr : type_of% @Bool.not_true := @Bool.not_true
theorem zbs : type_of% @Bool.not_false := @Bool.not_false
theorem zbt : type_of% @gt_iff_lt := @gt_iff_lt
theorem zbu : type_of% @ge_iff_le := @ge_iff_le
theorem zbv : type_of% @List.foldl_nil := @List.foldl_nil
theorem zbw : type_of% @List.foldl_cons := @List.foldl_cons
theorem zbx : type_of% @Option.any_some := @Option.any_some
theorem zby : type_of% @Option.any_none := @Option.any_none
theorem zbz : type_of% @Option.isSome_none := @Option.isSome_none
theorem zca : type_of% @Bool.toNat_true := @Bool.toNat_true
theorem zcb : type_of% @Bool.toNat_false := @Bool.toNat_false
theorem zcc : type_of% @List.append_eq := @List.append_eq
theorem zcd : type_of% @and_self := @and_self
theorem WW : type_of% @indexOp_str ∧ type_of% @indexOp_agg ∧ type_of% @strAt_str ∧ type_of% @aggAt_arr ∧ type_of% @fieldOp_agg ∧ type_of% @byteV_eq ∧ type_of% @wC_skip ∧ type_of% @wC_label ∧ type_of% @wC_scope ∧ type_of% @scQ_normal ∧ type_of% @scQ_ret ∧ type_of% @scQ_exit ∧ type_of% @scQ_panic ∧ type_of% @scQ_goto ∧ type_of% @scQ2_normal ∧ type_of% @scQ2_ret ∧ type_of% @scQ2_exit ∧ type_of% @scQ2_panic ∧ type_of% @kLab_some ∧ type_of% @wC_goto ∧ type_of% @kSeq_goto ∧ type_of% @blkQ_goto ∧ type_of% @kLp_goto ∧ type_of% @wO_clear ∧ type_of% @wC_seq ∧ type_of% @wC_region ∧ type_of% @wC_exit ∧ type_of% @wC_ret ∧ type_of% @wC_blk ∧ type_of% @wC_cond ∧ type_of% @wO_nil ∧ type_of% @wO_guard ∧ type_of% @wO_move ∧ type_of% @wO_assign ∧ type_of% @wO_pick ∧ type_of% @wO_load ∧ type_of% @wO_nilCheck ∧ type_of% @wO_fieldAddr ∧ type_of% @wO_indexAddr ∧ type_of% @wO_field ∧ type_of% @wO_index ∧ type_of% @wO_slice ∧ type_of% @wO_binOp ∧ type_of% @wO_not ∧ type_of% @wO_neg ∧ type_of% @wO_convert ∧ type_of% @wO_build ∧ type_of% @wO_extract ∧ type_of% @wO_makeFunc ∧ type_of% @wO_makeInterface ∧ type_of% @wO_lookup ∧ type_of% @wO_makeMap ∧ type_of% @wO_mapUpdate ∧ type_of% @wO_store ∧ type_of% @wO_alloc ∧ type_of% @wO_box ∧ type_of% @wO_buildSlice ∧ type_of% @wO_len ∧ type_of% @wO_append ∧ type_of% @wO_call ∧ type_of% @wO_invoke ∧ type_of% @kSeq_normal ∧ type_of% @kSeq_exit ∧ type_of% @kSeq_ret ∧ type_of% @kSeq_panic ∧ type_of% @kLp_normal ∧ type_of% @kLp_exit ∧ type_of% @kLp_ret ∧ type_of% @kLp_panic ∧ type_of% @cStep_t ∧ type_of% @cStep_f ∧ type_of% @kCond_bool ∧ type_of% @gStep_tt ∧ type_of% @gStep_ff ∧ type_of% @gStep_tf ∧ type_of% @gStep_ft ∧ type_of% @kG_bool ∧ type_of% @kG_skip ∧ type_of% @kG0_some ∧ type_of% @kS_eq ∧ type_of% @kV_eq ∧ type_of% @kSt_eq ∧ type_of% @kH_eq ∧ type_of% @kSH_eq ∧ type_of% @kOp_eq ∧ type_of% @kPick_bool ∧ type_of% @kNot_bool ∧ type_of% @kNeg_int ∧ type_of% @kTup_tup ∧ type_of% @kMode_priv ∧ type_of% @kMode_imm ∧ type_of% @kMode_heap ∧ type_of% @kRow_eq ∧ type_of% @kBS_sl ∧ type_of% @kAp2_eq ∧ type_of% @kAp_sl ∧ type_of% @kCall_fn ∧ type_of% @kInv2_eq ∧ type_of% @kInv_ifc ∧ type_of% @kVH_eq ∧ type_of% @wO_makeSlice ∧ type_of% @wO_min ∧ type_of% @wO_max ∧ type_of% @wO_delete ∧ type_of% @wO_panic ∧ type_of% @kPan_ifc ∧ type_of% @kRowM_heap ∧ type_of% @kRowM_priv ∧ type_of% @kRowM_imm ∧ type_of% @immV_nil ∧ type_of% @immV_cons ∧ type_of% @seal_emp ∧ type_of% @cells_emp ∧ type_of% @okV_emp ∧ type_of% @grows_emp ∧ type_of% @modeD_some ∧ type_of% @modeD_none ∧ type_of% @rdG_tmp ∧ type_of% @rdG_const ∧ type_of% @rdG_global ∧ type_of% @glSlot_agg ∧ type_of% @glSlot_int ∧ type_of% @glSlot_rsl ∧ type_of% @envGl ∧ type_of% @cells_nili ∧ type_of% @cells_nilf ∧ type_of% @cells_nilm ∧ type_of% @cells_ept ∧ type_of% @okV_nili ∧ type_of% @okV_nilf ∧ type_of% @okV_nilm ∧ type_of% @okV_ept ∧ type_of% @seal_nili ∧ type_of% @seal_nilf ∧ type_of% @seal_nilm ∧ type_of% @grows_sl ∧ type_of% @grows_fn ∧ type_of% @grows_ifc ∧ type_of% @grows_ept ∧ type_of% @grows_hr ∧ type_of% @grows_nilf ∧ type_of% @grows_nili ∧ type_of% @grows_map ∧ type_of% @viewV_str ∧ type_of% @blkQ_exit ∧ type_of% @blkQ_normal ∧ type_of% @blkQ_ret ∧ type_of% @blkQ_panic ∧ type_of% @endQ_normal ∧ type_of% @endQ_ret ∧ type_of% @endQ_panic ∧ type_of% @rd_tmp ∧ type_of% @rdS_tmp ∧ type_of% @rdS_const ∧ type_of% @rd_const ∧ type_of% @rdS_func ∧ type_of% @rd_func ∧ type_of% @raw_v ∧ type_of% @seal_int ∧ type_of% @seal_bool ∧ type_of% @seal_str ∧ type_of% @seal_rsl ∧ type_of% @seal_nils ∧ type_of% @seal_nilp ∧ type_of% @seal_ptr ∧ type_of% @seal_ept ∧ type_of% @seal_sl ∧ type_of% @seal_hr ∧ type_of% @seal_fn ∧ type_of% @seal_agg ∧ type_of% @seal_tup ∧ type_of% @seal_ifc ∧ type_of% @seal_map ∧ type_of% @seal_undef ∧ type_of% @seal_lr ∧ type_of% @envP ∧ type_of% @envC ∧ type_of% @envM ∧ type_of% @put_some ∧ type_of% @put_none ∧ type_of% @lenOp_eq ∧ type_of% @lenK_nils ∧ type_of% @lenK_rsl ∧ type_of% @lenK_sl ∧ type_of% @lenK_hr ∧ type_of% @lenK_str ∧ type_of% @lenK_nilm ∧ type_of% @lenK_map ∧ type_of% @lenMap_some ∧ type_of% @arrAt_box ∧ type_of% @arrAt_ref ∧ type_of% @arrAt_ptr ∧ type_of% @arrAt_ept ∧ type_of% @slIn_some ∧ type_of% @slAt_rsl ∧ type_of% @slAt_sl ∧ type_of% @indexAddrOp_eq ∧ type_of% @ixa_arr ∧ type_of% @ixa_sl ∧ type_of% @ptrCells_some ∧ type_of% @sc_box ∧ type_of% @sc_ref ∧ type_of% @sc_ept ∧ type_of% @sc_ptr ∧ type_of% @fa_box ∧ type_of% @fa_ref ∧ type_of% @fa_ptr ∧ type_of% @fa_ept ∧ type_of% @nc_box ∧ type_of% @nc_ref ∧ type_of% @nc_ptr ∧ type_of% @nc_ept ∧ type_of% @nc_fn ∧ type_of% @nc_ifc ∧ type_of% @wpX_some ∧ type_of% @wpX_bind ∧ type_of% @wpX_map ∧ type_of% @wpX_ite ∧ type_of% @viewV_rsl ∧ type_of% @viewV_nils ∧ type_of% @viewV_sl ∧ type_of% @width_eq ∧ type_of% @cells_agg ∧ type_of% @cells_int ∧ type_of% @cells_bool ∧ type_of% @cells_str ∧ type_of% @cells_ptr ∧ type_of% @cells_nilp ∧ type_of% @cells_nils ∧ type_of% @cells_rsl ∧ type_of% @cells_hr ∧ type_of% @cells_lr ∧ type_of% @cells_sl ∧ type_of% @cells_map ∧ type_of% @cells_ifc ∧ type_of% @cells_fn ∧ type_of% @okV_agg ∧ type_of% @okV_int ∧ type_of% @okV_bool ∧ type_of% @okV_str ∧ type_of% @okV_ptr ∧ type_of% @okV_nilp ∧ type_of% @okV_nils ∧ type_of% @okV_rsl ∧ type_of% @okV_hr ∧ type_of% @okV_lr ∧ type_of% @okV_sl ∧ type_of% @okV_map ∧ type_of% @okV_ifc ∧ type_of% @okV_fn ∧ type_of% @nat_le ∧ type_of% @resGrow_tmp ∧ type_of% @resGrow_cell ∧ type_of% @grows_int ∧ type_of% @grows_bool ∧ type_of% @grows_str ∧ type_of% @grows_rsl ∧ type_of% @grows_nils ∧ type_of% @grows_nilp ∧ type_of% @grows_agg ∧ type_of% @grows_ptr ∧ type_of% @afterK_ret ∧ type_of% @afterK_rett ∧ type_of% @afterK_panic ∧ type_of% @sealH_priv ∧ type_of% @sealH_heap ∧ type_of% @sealH_nils ∧ type_of% @sealH_rsl ∧ type_of% @kSeal_eq ∧ type_of% @callOut_t :=
  ⟨@indexOp_str, @indexOp_agg, @strAt_str, @aggAt_arr, @fieldOp_agg, @byteV_eq, @wC_skip, @wC_label, @wC_scope, @scQ_normal, @scQ_ret, @scQ_exit, @scQ_panic, @scQ_goto, @scQ2_normal, @scQ2_ret, @scQ2_exit, @scQ2_panic, @kLab_some, @wC_goto, @kSeq_goto, @blkQ_goto, @kLp_goto, @wO_clear, @wC_seq, @wC_region, @wC_exit, @wC_ret, @wC_blk, @wC_cond, @wO_nil, @wO_guard, @wO_move, @wO_assign, @wO_pick, @wO_load, @wO_nilCheck, @wO_fieldAddr, @wO_indexAddr, @wO_field, @wO_index, @wO_slice, @wO_binOp, @wO_not, @wO_neg, @wO_convert, @wO_build, @wO_extract, @wO_makeFunc, @wO_makeInterface, @wO_lookup, @wO_makeMap, @wO_mapUpdate, @wO_store, @wO_alloc, @wO_box, @wO_buildSlice, @wO_len, @wO_append, @wO_call, @wO_invoke, @kSeq_normal, @kSeq_exit, @kSeq_ret, @kSeq_panic, @kLp_normal, @kLp_exit, @kLp_ret, @kLp_panic, @cStep_t, @cStep_f, @kCond_bool, @gStep_tt, @gStep_ff, @gStep_tf, @gStep_ft, @kG_bool, @kG_skip, @kG0_some, @kS_eq, @kV_eq, @kSt_eq, @kH_eq, @kSH_eq, @kOp_eq, @kPick_bool, @kNot_bool, @kNeg_int, @kTup_tup, @kMode_priv, @kMode_imm, @kMode_heap, @kRow_eq, @kBS_sl, @kAp2_eq, @kAp_sl, @kCall_fn, @kInv2_eq, @kInv_ifc, @kVH_eq, @wO_makeSlice, @wO_min, @wO_max, @wO_delete, @wO_panic, @kPan_ifc, @kRowM_heap, @kRowM_priv, @kRowM_imm, @immV_nil, @immV_cons, @seal_emp, @cells_emp, @okV_emp, @grows_emp, @modeD_some, @modeD_none, @rdG_tmp, @rdG_const, @rdG_global, @glSlot_agg, @glSlot_int, @glSlot_rsl, @envGl, @cells_nili, @cells_nilf, @cells_nilm, @cells_ept, @okV_nili, @okV_nilf, @okV_nilm, @okV_ept, @seal_nili, @seal_nilf, @seal_nilm, @grows_sl, @grows_fn, @grows_ifc, @grows_ept, @grows_hr, @grows_nilf, @grows_nili, @grows_map, @viewV_str, @blkQ_exit, @blkQ_normal, @blkQ_ret, @blkQ_panic, @endQ_normal, @endQ_ret, @endQ_panic, @rd_tmp, @rdS_tmp, @rdS_const, @rd_const, @rdS_func, @rd_func, @raw_v, @seal_int, @seal_bool, @seal_str, @seal_rsl, @seal_nils, @seal_nilp, @seal_ptr, @seal_ept, @seal_sl, @seal_hr, @seal_fn, @seal_agg, @seal_tup, @seal_ifc, @seal_map, @seal_undef, @seal_lr, @envP, @envC, @envM, @put_some, @put_none, @lenOp_eq, @lenK_nils, @lenK_rsl, @lenK_sl, @lenK_hr, @lenK_str, @lenK_nilm, @lenK_map, @lenMap_some, @arrAt_box, @arrAt_ref, @arrAt_ptr, @arrAt_ept, @slIn_some, @slAt_rsl, @slAt_sl, @indexAddrOp_eq, @ixa_arr, @ixa_sl, @ptrCells_some, @sc_box, @sc_ref, @sc_ept, @sc_ptr, @fa_box, @fa_ref, @fa_ptr, @fa_ept, @nc_box, @nc_ref, @nc_ptr, @nc_ept, @nc_fn, @nc_ifc, @wpX_some, @wpX_bind, @wpX_map, @wpX_ite, @viewV_rsl, @viewV_nils, @viewV_sl, @width_eq, @cells_agg, @cells_int, @cells_bool, @cells_str, @cells_ptr, @cells_nilp, @cells_nils, @cells_rsl, @cells_hr, @cells_lr, @cells_sl, @cells_map, @cells_ifc, @cells_fn, @okV_agg, @okV_int, @okV_bool, @okV_str, @okV_ptr, @okV_nilp, @okV_nils, @okV_rsl, @okV_hr, @okV_lr, @okV_sl, @okV_map, @okV_ifc, @okV_fn, @nat_le, @resGrow_tmp, @resGrow_cell, @grows_int, @grows_bool, @grows_str, @grows_rsl, @grows_nils, @grows_nilp, @grows_agg, @grows_ptr, @afterK_ret, @afterK_rett, @afterK_panic, @sealH_priv, @sealH_heap, @sealH_nils, @sealH_rsl, @kSeal_eq, @callOut_t⟩
theorem WN : type_of% @envK ∧ type_of% @envG ∧ type_of% @clip_undef ∧ type_of% @clip_int ∧ type_of% @clip_bool ∧ type_of% @clip_str ∧ type_of% @clip_ptr ∧ type_of% @clip_ept ∧ type_of% @clip_rsl ∧ type_of% @clip_emp ∧ type_of% @clip_nils ∧ type_of% @clip_nilp ∧ type_of% @clip_sl ∧ type_of% @clip_hr ∧ type_of% @clip_fn ∧ type_of% @clip_agg ∧ type_of% @clip_tup ∧ type_of% @clip_ifc ∧ type_of% @clip_map ∧ type_of% @clip_nili ∧ type_of% @clip_nilf ∧ type_of% @clip_nilm ∧ type_of% @clip_box ∧ type_of% @clip_ref ∧ type_of% @clip_lr :=
  ⟨@envK, @envG, @clip_undef, @clip_int, @clip_bool, @clip_str, @clip_ptr, @clip_ept, @clip_rsl, @clip_emp, @clip_nils, @clip_nilp, @clip_sl, @clip_hr, @clip_fn, @clip_agg, @clip_tup, @clip_ifc, @clip_map, @clip_nili, @clip_nilf, @clip_nilm, @clip_box, @clip_ref, @clip_lr⟩
theorem WD : type_of% @wD_nil ∧ type_of% @wD_cons ∧ type_of% @kD_normal ∧ type_of% @addV_t ∧ type_of% @addV_f ∧ type_of% @kDraw_eq ∧ type_of% @chkAll_nil ∧ type_of% @chkAll_cons ∧ type_of% @kChk_normal :=
  ⟨@wD_nil, @wD_cons, @kD_normal, @addV_t, @addV_f, @kDraw_eq, @chkAll_nil, @chkAll_cons, @kChk_normal⟩
end Go.Abs
