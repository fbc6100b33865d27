/- The program's Legal. -/
import Derived.Test.YtmknkpcdfkpobaaE2
set_option linter.unusedVariables false
set_option linter.unusedSimpArgs false
namespace Go.Proofs.YtmknkpcdfkpobaaA
open Go.RowKit

theorem splice_all (cs V : List Value) (h : V.length = cs.length) : splice cs 0 V = V := by
  unfold splice
  rw [List.take_zero, List.nil_append, Nat.zero_add, h, List.drop_length, List.append_nil]

theorem oLegal_spec (xs : List Int) (l : List OpV) (a b : Option Addr) (cap cb : Nat) (H : AH) (h : IntsR H xs a cap) (hl : OpsR H l b cb) (hb : xs.length ≤ 1000) (hb2 : l.length ≤ 1000) :
    ACalls Try.prog 19 [.slice a xs.length cap, .slice b l.length cb] H (LegalQ xs l H) := by
  refine enter19 ?_
  unfold ac19
  first | refine go ?_ | exact fin
  refine XC.mk' (clone_spec xs a cap H h (by omega)) ?_
  intro v H0 hq
  obtain ⟨a0, c0, hv, ho, hE⟩ := hq
  subst hv
  first | refine go ?_ | exact fin
  refine XL.loop (β := Nat × List Int × Option Addr × Nat) (fun s j => [.slice a xs.length cap, .slice b l.length cb, j 2, j 3, .slice none 0 0, .bool false, .slice s.2.2.1 s.2.1.length s.2.2.2, j 7, j 8, j 9, j 10, j 11, j 12, j 13, .slice b l.length cb, .int .i64 l.length, .int .i64 s.1, j 17, j 18, j 19, j 20, j 21, j 22, j 23, j 24, j 25, j 26, j 27, j 28, j 29, j 30, j 31, j 32, j 33, j 34, j 35, j 36, j 37, j 38, j 39, j 40, j 41, j 42, j 43, j 44, j 45, j 46, j 47, j 48, j 49, j 50, j 51, j 52, j 53, j 54, j 55, j 56, j 57, j 58, j 59, j 60, j 61, j 62])
    (fun s H' => s.1 ≤ l.length ∧ s.2.1.length ≤ xs.length + s.1 ∧ legalP xs l = legalP s.2.1 (l.drop s.1) ∧ Own H' H.next 1 (s.2.1.map (.int .i64)) s.2.2.1 s.2.1.length s.2.2.2 ∧ Ext H H')
    (fun s => l.length - s.1) (0, xs, a0, c0) (fun n => [undef, undef, undef, undef, undef, undef, undef, undef, undef, undef, undef, undef, .slice a xs.length cap, .slice a0 xs.length c0].getD n undef) rfl ⟨Nat.zero_le _, Nat.le_refl _, rfl, ho, hE⟩ ?_
  clear ho hE
  rintro ⟨i, ys, a1, c1⟩ j H' ⟨hi, hyl, hleg, ho, hE⟩
  dsimp only at hi hyl hleg ho hE ⊢
  first | refine go ?_ | exact fin
  refine XB.mk' (fun hlt => ?_) (fun hge => ?_)
  · have hlt' : i < l.length := by simpa using hlt
    have hw := wrap_succ hlt' (Nat.le_trans hb2 (by decide))
    rw [drop_cons l i op0 hlt'] at hleg
    generalize hx : l.getD i op0 = x at hleg
    first | refine go1 hlt ?_ | exact fin1 hlt
    refine xelem_op (hl.ext hE) rfl hlt' fun b1 o1 hc1 => ?_
    rw [hx] at hc1
    first | refine go1 hc1.opN ?_ | exact fin1 hc1.opN
    refine xstore.mk' (AH.blk_alloc _ _) rfl rfl (by decide) ?_
    rw [cellsL_agg, splice_all [.int .i64 0, .int .i64 0, .int .i64 0, .int .i64 0, .int .i64 0, .int .i64 0] (opCells x) rfl]
    generalize hH1 : (H'.alloc (.cells [.int .i64 0, .int .i64 0, .int .i64 0, .int .i64 0, .int .i64 0, .int .i64 0] true)).set H'.next (.cells (opCells x) true) = H1
    have hE1 : Ext H' H1 := by rw [← hH1]; exact (Ext.alloc H' _).set (Nat.le_refl _) _
    have hc : CellsR H1 H'.next 0 (opCells x) := by
      rw [← hH1]
      exact ⟨Nat.lt_succ_self _, opCells x, true, AH.blk_set _ _ _, Nat.le_refl _, rfl⟩
    have q1 : rload1 H1 H'.next 1 = some (.int .i64 x.kd) := hc.load (i := 1) rfl
    have q2 : rload1 H1 H'.next 2 = some (.int .i64 x.ky) := hc.load (i := 2) rfl
    first | refine go2 q1 q2 ?_ | exact fin2 q1 q2
    refine XC.mk' (oDo_spec ys x.kd x.ky a1 c1 H1 (ho.ext hE1).sl (by omega)) ?_
    intro v H2 hq
    obtain ⟨a2, c2, hv, ho2, hE2⟩ := hq
    have hlen := doR_len ys x.kd x.ky
    simp only [legalP] at hleg
    generalize hd : doR ys x.kd x.ky = D at hv ho2 hlen hleg
    obtain ⟨zs, r, e⟩ := D
    dsimp only at hv ho2 hlen hleg
    subst hv
    have hc2 := hc.ext hE2
    have w1 : rload1 H2 H'.next 1 = some (.int .i64 x.kd) := hc2.load (i := 1) rfl
    have w3 : rload1 H2 H'.next 3 = some (.int .i64 x.rs) := hc2.load (i := 3) rfl
    have hE12 := hE.trans (hE1.trans hE2)
    have ho12 := ho.ext (hE1.trans hE2)
    have ho22 : Own H2 H.next 1 (zs.map (.int .i64)) a2 zs.length c2 := ho2.lower (Nat.le_trans hE.next hE1.next)
    cases d2 : decide (x.rs = 2) with
    | true =>
      have d2' := of_decide_eq_true d2
      cases k1 : decide (x.kd = 1) with
      | true =>
        have k1' := of_decide_eq_true k1
        cases e0 : decide (e = 0) with
        | true =>
          have e0' := of_decide_eq_true e0
          rw [if_pos ⟨d2', k1', .inl e0'⟩] at hleg
          first | refine go6 w1 w3 d2 k1 e0 hw ?_ | exact fin6 w1 w3 d2 k1 e0 hw
          exact ⟨(i + 1, ys, a1, c1), rfl, ⟨hlt', by dsimp only; omega, hleg, ho12, hE12⟩, by dsimp only; omega⟩
        | false =>
          have e0' := of_decide_eq_false e0
          cases e2 : decide (e = 2) with
          | true =>
            have e2' := of_decide_eq_true e2
            rw [if_pos ⟨d2', k1', .inr e2'⟩] at hleg
            simp (config := { dsimp := false, implicitDefEqProofs := false }) only [w1, w3, d2, k1, e0, e2, hw, ev_t, ev_c, putL_some, putL_none, xops_nil, xops_cons, xstep_none, xstep_some, xguard_bool, xguard_undef, xr_move, xr_raw, xr_pick, xr_load1, xr_loadN, xr_store, xr_addr, xr_elemS, xr_elemA, xr_fld1, xr_fldN, xr_lenS, xr_lenSl, xr_extract, xr_int, xr_not, xr_alloc, xr_box, xr_iface, xr_nilCheck, xr_call, xr_neg, xr_quo, xr_app, xr_appz, xr_ext, xr_cap, rcap_s, rcap_n, xr_bsl, xr_build, xr_sl, xr_mks, xw_skip, xw_ret, xw_exit, xw_ops, xw_seq, xw_cond, xw_block, xw_loop, aT_normal, aT_exit, aT_ret, iB_normal, iB_ret, iB_exit, rK_ret, rK_normal, xpick_b, xload1_p, xloadN_p, xquo_q, xquo_r, xnew_eq, xmks_eq, xcond_b, xbsl_eq, bslK_some, xsl_ex, xsl_nil, slNK_some, xsl_f, slFK_some, xload1_f, xloadN_f, base_f, slen_f, baseA_f, rlenSl_f, raddr_f, xld1_f, xldN_f, cellsL_fs, cellsL_fp, okCell_fs, okCell_fp, nonNil_fp, slK_some, rint_add, rint_sub, rint_mul, rint_eql, rint_neq, rint_lss, rint_leq, rint_gtr, rint_geq, raddr_p, base_s, slen_s, baseA_p, rfld1_a, rlenS_s, rlenSl_s, aextract_t, xnot_b, rneg_i, rbnd_n, rbnd_s, cellsL_int, cellsL_bool, cellsL_sl, cellsL_ptr, cellsL_agg, cellsL_str, cellsL_if, cellsL_nif, rbuild_eq, resTmp_t, xw_reg, xrg_nil, xrg_pu, xrg_ld, xrg_eff, xrg_both, ldOK_load1, ldOK_loadN, xld1_p, xldN_p, XPend_true, xr_nilv, xr_cvt, xr_cvs, xr_bit, xr_copy, xr_clear, rnil_sn, rnil_ss, rnil_pn, rnil_ps, rnil_ie, rnil_in, rcvt_i, rcvs_s, rbit_shr, rbit_shl, xelem_i, xr_bb, xr_eqA, xr_mm, rbb_e, rbb_n, amm2_min_i, amm2_max_i, reqA_e, reqA_n, okL_nil, okL_i, okL_b, okL_s, xelem_n, xelem_c0, xelem_e0, xelem_c1, xelem_e1, xelem_c2, xelem_e2, xelem_c3, xelem_e3, xelem_c4, xelem_e4, xelem_c5, xelem_e5, xelem_c6, xelem_e6, xelem_c7, xelem_e7, xelem_c8, xelem_e8, xelem_c9, xelem_e9, xr_slA, xr_callv, xr_inv, xr_tass, xr_mkf, fnOk_func, xslA_p, xslA_f, slAPK_some, slAFK_some, Int.reduceEq, Int.reduceLT, Int.reduceLE, Int.reduceNe, Nat.reduceLT, Nat.reduceEqDiff, Nat.reduceSub, Int.reduceNeg, Int.reduceToNat, Bool.not_true, Bool.not_not, List.set_cons_zero, List.set_cons_succ, List.getD_cons_zero, List.getD_cons_succ, List.getElem?_cons_zero, List.getElem?_cons_succ, XV_some, XB_true, XB_false, XS_true, beq_self_eq_true, Bool.not_true, Bool.not_false, ares, resAll, List.map_cons, List.map_nil, List.all_cons, List.all_nil, Bool.and_self, Bool.and_true, Bool.true_and, reduceIte, reduceCtorEq, Option.map_none, Option.map_some, Option.isSome_none, Option.isSome_some, decide_true, decide_false, beq_true, beq_false, okv_some_eq, okCell, nonNil, iB_exit_ne, Nat.reduceBEq, Nat.add_zero, Nat.zero_add, Nat.mul_one, and_self, and_true, true_and, List.nil_append, List.mem_cons, List.mem_append, List.not_mem_nil, List.append_nil, List.contains_cons, List.contains_nil, Bool.or_false, Bool.or_true, Bool.false_or, forall_eq_or_imp, forall_eq, false_or, or_false, false_implies, forall_false, implies_true, forall_const, List.cons_append, true_implies, imp_false, not_true_eq_false, not_false_eq_true, List.elem_cons, List.elem_nil, Int.toNat_natCast, Int.toNat_zero, Nat.sub_zero, Option.isNone_some, Option.isNone_none, afill, zrow_zero, zrow_succ, List.replicate_succ, List.replicate_zero, List.flatten_cons, List.flatten_nil, splice, List.take_succ_cons, List.take_zero, List.take_nil, List.drop_succ_cons, List.drop_zero, List.drop_nil, Nat.reduceMul, Nat.reduceAdd, Nat.reduceLeDiff, List.length_cons, List.length_nil, Nat.le_refl, Option.getD_some, ne_eq, Nat.zero_mul, Nat.one_mul, List.mem_filter, and_imp, Bool.true_or, Bool.false_eq_true]
            exact ⟨(i + 1, ys, a1, c1), rfl, ⟨hlt', by dsimp only; omega, hleg, ho12, hE12⟩, by dsimp only; omega⟩
          | false =>
            have e2' := of_decide_eq_false e2
            rw [if_neg (by omega), if_pos e0'] at hleg
            first | refine go6 w1 w3 d2 k1 e0 e2 ?_ | exact fin6 w1 w3 d2 k1 e0 e2
            exact LegalQ.mk (ys := ys) hleg rfl ho12 hE12
      | false =>
        have k1' := of_decide_eq_false k1
        rw [if_neg (show ¬ (x.rs = 2 ∧ x.kd = 1 ∧ (e = 0 ∨ e = 2)) by omega)] at hleg
        cases e0 : decide (e = 0) with
        | false =>
          rw [if_pos (of_decide_eq_false e0)] at hleg
          first | refine go5 w1 w3 d2 k1 e0 ?_ | exact fin5 w1 w3 d2 k1 e0
          exact LegalQ.mk (ys := ys) hleg rfl ho12 hE12
        | true =>
          have e0' := of_decide_eq_true e0
          rw [if_neg (show ¬ (e ≠ 0) by omega)] at hleg
          cases rr : decide (x.rs = r) with
          | true =>
            rw [if_pos (.inl (of_decide_eq_true rr))] at hleg
            simp (config := { dsimp := false, implicitDefEqProofs := false }) only [w1, w3, d2, k1, e0, rr, hw, ev_t, ev_c, putL_some, putL_none, xops_nil, xops_cons, xstep_none, xstep_some, xguard_bool, xguard_undef, xr_move, xr_raw, xr_pick, xr_load1, xr_loadN, xr_store, xr_addr, xr_elemS, xr_elemA, xr_fld1, xr_fldN, xr_lenS, xr_lenSl, xr_extract, xr_int, xr_not, xr_alloc, xr_box, xr_iface, xr_nilCheck, xr_call, xr_neg, xr_quo, xr_app, xr_appz, xr_ext, xr_cap, rcap_s, rcap_n, xr_bsl, xr_build, xr_sl, xr_mks, xw_skip, xw_ret, xw_exit, xw_ops, xw_seq, xw_cond, xw_block, xw_loop, aT_normal, aT_exit, aT_ret, iB_normal, iB_ret, iB_exit, rK_ret, rK_normal, xpick_b, xload1_p, xloadN_p, xquo_q, xquo_r, xnew_eq, xmks_eq, xcond_b, xbsl_eq, bslK_some, xsl_ex, xsl_nil, slNK_some, xsl_f, slFK_some, xload1_f, xloadN_f, base_f, slen_f, baseA_f, rlenSl_f, raddr_f, xld1_f, xldN_f, cellsL_fs, cellsL_fp, okCell_fs, okCell_fp, nonNil_fp, slK_some, rint_add, rint_sub, rint_mul, rint_eql, rint_neq, rint_lss, rint_leq, rint_gtr, rint_geq, raddr_p, base_s, slen_s, baseA_p, rfld1_a, rlenS_s, rlenSl_s, aextract_t, xnot_b, rneg_i, rbnd_n, rbnd_s, cellsL_int, cellsL_bool, cellsL_sl, cellsL_ptr, cellsL_agg, cellsL_str, cellsL_if, cellsL_nif, rbuild_eq, resTmp_t, xw_reg, xrg_nil, xrg_pu, xrg_ld, xrg_eff, xrg_both, ldOK_load1, ldOK_loadN, xld1_p, xldN_p, XPend_true, xr_nilv, xr_cvt, xr_cvs, xr_bit, xr_copy, xr_clear, rnil_sn, rnil_ss, rnil_pn, rnil_ps, rnil_ie, rnil_in, rcvt_i, rcvs_s, rbit_shr, rbit_shl, xelem_i, xr_bb, xr_eqA, xr_mm, rbb_e, rbb_n, amm2_min_i, amm2_max_i, reqA_e, reqA_n, okL_nil, okL_i, okL_b, okL_s, xelem_n, xelem_c0, xelem_e0, xelem_c1, xelem_e1, xelem_c2, xelem_e2, xelem_c3, xelem_e3, xelem_c4, xelem_e4, xelem_c5, xelem_e5, xelem_c6, xelem_e6, xelem_c7, xelem_e7, xelem_c8, xelem_e8, xelem_c9, xelem_e9, xr_slA, xr_callv, xr_inv, xr_tass, xr_mkf, fnOk_func, xslA_p, xslA_f, slAPK_some, slAFK_some, Int.reduceEq, Int.reduceLT, Int.reduceLE, Int.reduceNe, Nat.reduceLT, Nat.reduceEqDiff, Nat.reduceSub, Int.reduceNeg, Int.reduceToNat, Bool.not_true, Bool.not_not, List.set_cons_zero, List.set_cons_succ, List.getD_cons_zero, List.getD_cons_succ, List.getElem?_cons_zero, List.getElem?_cons_succ, XV_some, XB_true, XB_false, XS_true, beq_self_eq_true, Bool.not_true, Bool.not_false, ares, resAll, List.map_cons, List.map_nil, List.all_cons, List.all_nil, Bool.and_self, Bool.and_true, Bool.true_and, reduceIte, reduceCtorEq, Option.map_none, Option.map_some, Option.isSome_none, Option.isSome_some, decide_true, decide_false, beq_true, beq_false, okv_some_eq, okCell, nonNil, iB_exit_ne, Nat.reduceBEq, Nat.add_zero, Nat.zero_add, Nat.mul_one, and_self, and_true, true_and, List.nil_append, List.mem_cons, List.mem_append, List.not_mem_nil, List.append_nil, List.contains_cons, List.contains_nil, Bool.or_false, Bool.or_true, Bool.false_or, forall_eq_or_imp, forall_eq, false_or, or_false, false_implies, forall_false, implies_true, forall_const, List.cons_append, true_implies, imp_false, not_true_eq_false, not_false_eq_true, List.elem_cons, List.elem_nil, Int.toNat_natCast, Int.toNat_zero, Nat.sub_zero, Option.isNone_some, Option.isNone_none, afill, zrow_zero, zrow_succ, List.replicate_succ, List.replicate_zero, List.flatten_cons, List.flatten_nil, splice, List.take_succ_cons, List.take_zero, List.take_nil, List.drop_succ_cons, List.drop_zero, List.drop_nil, Nat.reduceMul, Nat.reduceAdd, Nat.reduceLeDiff, List.length_cons, List.length_nil, Nat.le_refl, Option.getD_some, ne_eq, Nat.zero_mul, Nat.one_mul, List.mem_filter, and_imp, Bool.true_or, Bool.false_eq_true]
            exact ⟨(i + 1, zs, a2, c2), rfl, ⟨hlt', by dsimp only; omega, hleg, ho22, hE12⟩, by dsimp only; omega⟩
          | false =>
            cases rp : decide (x.rs = -1) with
            | true =>
              rw [if_pos (.inr (of_decide_eq_true rp))] at hleg
              simp (config := { dsimp := false, implicitDefEqProofs := false }) only [w1, w3, d2, k1, e0, rr, rp, hw, ev_t, ev_c, putL_some, putL_none, xops_nil, xops_cons, xstep_none, xstep_some, xguard_bool, xguard_undef, xr_move, xr_raw, xr_pick, xr_load1, xr_loadN, xr_store, xr_addr, xr_elemS, xr_elemA, xr_fld1, xr_fldN, xr_lenS, xr_lenSl, xr_extract, xr_int, xr_not, xr_alloc, xr_box, xr_iface, xr_nilCheck, xr_call, xr_neg, xr_quo, xr_app, xr_appz, xr_ext, xr_cap, rcap_s, rcap_n, xr_bsl, xr_build, xr_sl, xr_mks, xw_skip, xw_ret, xw_exit, xw_ops, xw_seq, xw_cond, xw_block, xw_loop, aT_normal, aT_exit, aT_ret, iB_normal, iB_ret, iB_exit, rK_ret, rK_normal, xpick_b, xload1_p, xloadN_p, xquo_q, xquo_r, xnew_eq, xmks_eq, xcond_b, xbsl_eq, bslK_some, xsl_ex, xsl_nil, slNK_some, xsl_f, slFK_some, xload1_f, xloadN_f, base_f, slen_f, baseA_f, rlenSl_f, raddr_f, xld1_f, xldN_f, cellsL_fs, cellsL_fp, okCell_fs, okCell_fp, nonNil_fp, slK_some, rint_add, rint_sub, rint_mul, rint_eql, rint_neq, rint_lss, rint_leq, rint_gtr, rint_geq, raddr_p, base_s, slen_s, baseA_p, rfld1_a, rlenS_s, rlenSl_s, aextract_t, xnot_b, rneg_i, rbnd_n, rbnd_s, cellsL_int, cellsL_bool, cellsL_sl, cellsL_ptr, cellsL_agg, cellsL_str, cellsL_if, cellsL_nif, rbuild_eq, resTmp_t, xw_reg, xrg_nil, xrg_pu, xrg_ld, xrg_eff, xrg_both, ldOK_load1, ldOK_loadN, xld1_p, xldN_p, XPend_true, xr_nilv, xr_cvt, xr_cvs, xr_bit, xr_copy, xr_clear, rnil_sn, rnil_ss, rnil_pn, rnil_ps, rnil_ie, rnil_in, rcvt_i, rcvs_s, rbit_shr, rbit_shl, xelem_i, xr_bb, xr_eqA, xr_mm, rbb_e, rbb_n, amm2_min_i, amm2_max_i, reqA_e, reqA_n, okL_nil, okL_i, okL_b, okL_s, xelem_n, xelem_c0, xelem_e0, xelem_c1, xelem_e1, xelem_c2, xelem_e2, xelem_c3, xelem_e3, xelem_c4, xelem_e4, xelem_c5, xelem_e5, xelem_c6, xelem_e6, xelem_c7, xelem_e7, xelem_c8, xelem_e8, xelem_c9, xelem_e9, xr_slA, xr_callv, xr_inv, xr_tass, xr_mkf, fnOk_func, xslA_p, xslA_f, slAPK_some, slAFK_some, Int.reduceEq, Int.reduceLT, Int.reduceLE, Int.reduceNe, Nat.reduceLT, Nat.reduceEqDiff, Nat.reduceSub, Int.reduceNeg, Int.reduceToNat, Bool.not_true, Bool.not_not, List.set_cons_zero, List.set_cons_succ, List.getD_cons_zero, List.getD_cons_succ, List.getElem?_cons_zero, List.getElem?_cons_succ, XV_some, XB_true, XB_false, XS_true, beq_self_eq_true, Bool.not_true, Bool.not_false, ares, resAll, List.map_cons, List.map_nil, List.all_cons, List.all_nil, Bool.and_self, Bool.and_true, Bool.true_and, reduceIte, reduceCtorEq, Option.map_none, Option.map_some, Option.isSome_none, Option.isSome_some, decide_true, decide_false, beq_true, beq_false, okv_some_eq, okCell, nonNil, iB_exit_ne, Nat.reduceBEq, Nat.add_zero, Nat.zero_add, Nat.mul_one, and_self, and_true, true_and, List.nil_append, List.mem_cons, List.mem_append, List.not_mem_nil, List.append_nil, List.contains_cons, List.contains_nil, Bool.or_false, Bool.or_true, Bool.false_or, forall_eq_or_imp, forall_eq, false_or, or_false, false_implies, forall_false, implies_true, forall_const, List.cons_append, true_implies, imp_false, not_true_eq_false, not_false_eq_true, List.elem_cons, List.elem_nil, Int.toNat_natCast, Int.toNat_zero, Nat.sub_zero, Option.isNone_some, Option.isNone_none, afill, zrow_zero, zrow_succ, List.replicate_succ, List.replicate_zero, List.flatten_cons, List.flatten_nil, splice, List.take_succ_cons, List.take_zero, List.take_nil, List.drop_succ_cons, List.drop_zero, List.drop_nil, Nat.reduceMul, Nat.reduceAdd, Nat.reduceLeDiff, List.length_cons, List.length_nil, Nat.le_refl, Option.getD_some, ne_eq, Nat.zero_mul, Nat.one_mul, List.mem_filter, and_imp, Bool.true_or, Bool.false_eq_true]
              exact ⟨(i + 1, zs, a2, c2), rfl, ⟨hlt', by dsimp only; omega, hleg, ho22, hE12⟩, by dsimp only; omega⟩
            | false =>
              rw [if_neg (fun h => h.elim (of_decide_eq_false rr) (of_decide_eq_false rp))] at hleg
              simp (config := { dsimp := false, implicitDefEqProofs := false }) only [w1, w3, d2, k1, e0, rr, rp, ev_t, ev_c, putL_some, putL_none, xops_nil, xops_cons, xstep_none, xstep_some, xguard_bool, xguard_undef, xr_move, xr_raw, xr_pick, xr_load1, xr_loadN, xr_store, xr_addr, xr_elemS, xr_elemA, xr_fld1, xr_fldN, xr_lenS, xr_lenSl, xr_extract, xr_int, xr_not, xr_alloc, xr_box, xr_iface, xr_nilCheck, xr_call, xr_neg, xr_quo, xr_app, xr_appz, xr_ext, xr_cap, rcap_s, rcap_n, xr_bsl, xr_build, xr_sl, xr_mks, xw_skip, xw_ret, xw_exit, xw_ops, xw_seq, xw_cond, xw_block, xw_loop, aT_normal, aT_exit, aT_ret, iB_normal, iB_ret, iB_exit, rK_ret, rK_normal, xpick_b, xload1_p, xloadN_p, xquo_q, xquo_r, xnew_eq, xmks_eq, xcond_b, xbsl_eq, bslK_some, xsl_ex, xsl_nil, slNK_some, xsl_f, slFK_some, xload1_f, xloadN_f, base_f, slen_f, baseA_f, rlenSl_f, raddr_f, xld1_f, xldN_f, cellsL_fs, cellsL_fp, okCell_fs, okCell_fp, nonNil_fp, slK_some, rint_add, rint_sub, rint_mul, rint_eql, rint_neq, rint_lss, rint_leq, rint_gtr, rint_geq, raddr_p, base_s, slen_s, baseA_p, rfld1_a, rlenS_s, rlenSl_s, aextract_t, xnot_b, rneg_i, rbnd_n, rbnd_s, cellsL_int, cellsL_bool, cellsL_sl, cellsL_ptr, cellsL_agg, cellsL_str, cellsL_if, cellsL_nif, rbuild_eq, resTmp_t, xw_reg, xrg_nil, xrg_pu, xrg_ld, xrg_eff, xrg_both, ldOK_load1, ldOK_loadN, xld1_p, xldN_p, XPend_true, xr_nilv, xr_cvt, xr_cvs, xr_bit, xr_copy, xr_clear, rnil_sn, rnil_ss, rnil_pn, rnil_ps, rnil_ie, rnil_in, rcvt_i, rcvs_s, rbit_shr, rbit_shl, xelem_i, xr_bb, xr_eqA, xr_mm, rbb_e, rbb_n, amm2_min_i, amm2_max_i, reqA_e, reqA_n, okL_nil, okL_i, okL_b, okL_s, xelem_n, xelem_c0, xelem_e0, xelem_c1, xelem_e1, xelem_c2, xelem_e2, xelem_c3, xelem_e3, xelem_c4, xelem_e4, xelem_c5, xelem_e5, xelem_c6, xelem_e6, xelem_c7, xelem_e7, xelem_c8, xelem_e8, xelem_c9, xelem_e9, xr_slA, xr_callv, xr_inv, xr_tass, xr_mkf, fnOk_func, xslA_p, xslA_f, slAPK_some, slAFK_some, Int.reduceEq, Int.reduceLT, Int.reduceLE, Int.reduceNe, Nat.reduceLT, Nat.reduceEqDiff, Nat.reduceSub, Int.reduceNeg, Int.reduceToNat, Bool.not_true, Bool.not_not, List.set_cons_zero, List.set_cons_succ, List.getD_cons_zero, List.getD_cons_succ, List.getElem?_cons_zero, List.getElem?_cons_succ, XV_some, XB_true, XB_false, XS_true, beq_self_eq_true, Bool.not_true, Bool.not_false, ares, resAll, List.map_cons, List.map_nil, List.all_cons, List.all_nil, Bool.and_self, Bool.and_true, Bool.true_and, reduceIte, reduceCtorEq, Option.map_none, Option.map_some, Option.isSome_none, Option.isSome_some, decide_true, decide_false, beq_true, beq_false, okv_some_eq, okCell, nonNil, iB_exit_ne, Nat.reduceBEq, Nat.add_zero, Nat.zero_add, Nat.mul_one, and_self, and_true, true_and, List.nil_append, List.mem_cons, List.mem_append, List.not_mem_nil, List.append_nil, List.contains_cons, List.contains_nil, Bool.or_false, Bool.or_true, Bool.false_or, forall_eq_or_imp, forall_eq, false_or, or_false, false_implies, forall_false, implies_true, forall_const, List.cons_append, true_implies, imp_false, not_true_eq_false, not_false_eq_true, List.elem_cons, List.elem_nil, Int.toNat_natCast, Int.toNat_zero, Nat.sub_zero, Option.isNone_some, Option.isNone_none, afill, zrow_zero, zrow_succ, List.replicate_succ, List.replicate_zero, List.flatten_cons, List.flatten_nil, splice, List.take_succ_cons, List.take_zero, List.take_nil, List.drop_succ_cons, List.drop_zero, List.drop_nil, Nat.reduceMul, Nat.reduceAdd, Nat.reduceLeDiff, List.length_cons, List.length_nil, Nat.le_refl, Option.getD_some, ne_eq, Nat.zero_mul, Nat.one_mul, List.mem_filter, and_imp, Bool.true_or, Bool.false_eq_true]
              exact LegalQ.mk (ys := ys) hleg rfl ho12 hE12
    | false =>
      have d2' := of_decide_eq_false d2
      rw [if_neg (show ¬ (x.rs = 2 ∧ x.kd = 1 ∧ (e = 0 ∨ e = 2)) by omega)] at hleg
      cases e0 : decide (e = 0) with
      | false =>
        rw [if_pos (of_decide_eq_false e0)] at hleg
        first | refine go4 w1 w3 d2 e0 ?_ | exact fin4 w1 w3 d2 e0
        exact LegalQ.mk (ys := ys) hleg rfl ho12 hE12
      | true =>
        have e0' := of_decide_eq_true e0
        rw [if_neg (show ¬ (e ≠ 0) by omega)] at hleg
        cases rr : decide (x.rs = r) with
        | true =>
          rw [if_pos (.inl (of_decide_eq_true rr))] at hleg
          first | refine go6 w1 w3 d2 e0 rr hw ?_ | exact fin6 w1 w3 d2 e0 rr hw
          exact ⟨(i + 1, zs, a2, c2), rfl, ⟨hlt', by dsimp only; omega, hleg, ho22, hE12⟩, by dsimp only; omega⟩
        | false =>
          cases rp : decide (x.rs = -1) with
          | true =>
            rw [if_pos (.inr (of_decide_eq_true rp))] at hleg
            simp (config := { dsimp := false, implicitDefEqProofs := false }) only [w1, w3, d2, e0, rr, rp, hw, ev_t, ev_c, putL_some, putL_none, xops_nil, xops_cons, xstep_none, xstep_some, xguard_bool, xguard_undef, xr_move, xr_raw, xr_pick, xr_load1, xr_loadN, xr_store, xr_addr, xr_elemS, xr_elemA, xr_fld1, xr_fldN, xr_lenS, xr_lenSl, xr_extract, xr_int, xr_not, xr_alloc, xr_box, xr_iface, xr_nilCheck, xr_call, xr_neg, xr_quo, xr_app, xr_appz, xr_ext, xr_cap, rcap_s, rcap_n, xr_bsl, xr_build, xr_sl, xr_mks, xw_skip, xw_ret, xw_exit, xw_ops, xw_seq, xw_cond, xw_block, xw_loop, aT_normal, aT_exit, aT_ret, iB_normal, iB_ret, iB_exit, rK_ret, rK_normal, xpick_b, xload1_p, xloadN_p, xquo_q, xquo_r, xnew_eq, xmks_eq, xcond_b, xbsl_eq, bslK_some, xsl_ex, xsl_nil, slNK_some, xsl_f, slFK_some, xload1_f, xloadN_f, base_f, slen_f, baseA_f, rlenSl_f, raddr_f, xld1_f, xldN_f, cellsL_fs, cellsL_fp, okCell_fs, okCell_fp, nonNil_fp, slK_some, rint_add, rint_sub, rint_mul, rint_eql, rint_neq, rint_lss, rint_leq, rint_gtr, rint_geq, raddr_p, base_s, slen_s, baseA_p, rfld1_a, rlenS_s, rlenSl_s, aextract_t, xnot_b, rneg_i, rbnd_n, rbnd_s, cellsL_int, cellsL_bool, cellsL_sl, cellsL_ptr, cellsL_agg, cellsL_str, cellsL_if, cellsL_nif, rbuild_eq, resTmp_t, xw_reg, xrg_nil, xrg_pu, xrg_ld, xrg_eff, xrg_both, ldOK_load1, ldOK_loadN, xld1_p, xldN_p, XPend_true, xr_nilv, xr_cvt, xr_cvs, xr_bit, xr_copy, xr_clear, rnil_sn, rnil_ss, rnil_pn, rnil_ps, rnil_ie, rnil_in, rcvt_i, rcvs_s, rbit_shr, rbit_shl, xelem_i, xr_bb, xr_eqA, xr_mm, rbb_e, rbb_n, amm2_min_i, amm2_max_i, reqA_e, reqA_n, okL_nil, okL_i, okL_b, okL_s, xelem_n, xelem_c0, xelem_e0, xelem_c1, xelem_e1, xelem_c2, xelem_e2, xelem_c3, xelem_e3, xelem_c4, xelem_e4, xelem_c5, xelem_e5, xelem_c6, xelem_e6, xelem_c7, xelem_e7, xelem_c8, xelem_e8, xelem_c9, xelem_e9, xr_slA, xr_callv, xr_inv, xr_tass, xr_mkf, fnOk_func, xslA_p, xslA_f, slAPK_some, slAFK_some, Int.reduceEq, Int.reduceLT, Int.reduceLE, Int.reduceNe, Nat.reduceLT, Nat.reduceEqDiff, Nat.reduceSub, Int.reduceNeg, Int.reduceToNat, Bool.not_true, Bool.not_not, List.set_cons_zero, List.set_cons_succ, List.getD_cons_zero, List.getD_cons_succ, List.getElem?_cons_zero, List.getElem?_cons_succ, XV_some, XB_true, XB_false, XS_true, beq_self_eq_true, Bool.not_true, Bool.not_false, ares, resAll, List.map_cons, List.map_nil, List.all_cons, List.all_nil, Bool.and_self, Bool.and_true, Bool.true_and, reduceIte, reduceCtorEq, Option.map_none, Option.map_some, Option.isSome_none, Option.isSome_some, decide_true, decide_false, beq_true, beq_false, okv_some_eq, okCell, nonNil, iB_exit_ne, Nat.reduceBEq, Nat.add_zero, Nat.zero_add, Nat.mul_one, and_self, and_true, true_and, List.nil_append, List.mem_cons, List.mem_append, List.not_mem_nil, List.append_nil, List.contains_cons, List.contains_nil, Bool.or_false, Bool.or_true, Bool.false_or, forall_eq_or_imp, forall_eq, false_or, or_false, false_implies, forall_false, implies_true, forall_const, List.cons_append, true_implies, imp_false, not_true_eq_false, not_false_eq_true, List.elem_cons, List.elem_nil, Int.toNat_natCast, Int.toNat_zero, Nat.sub_zero, Option.isNone_some, Option.isNone_none, afill, zrow_zero, zrow_succ, List.replicate_succ, List.replicate_zero, List.flatten_cons, List.flatten_nil, splice, List.take_succ_cons, List.take_zero, List.take_nil, List.drop_succ_cons, List.drop_zero, List.drop_nil, Nat.reduceMul, Nat.reduceAdd, Nat.reduceLeDiff, List.length_cons, List.length_nil, Nat.le_refl, Option.getD_some, ne_eq, Nat.zero_mul, Nat.one_mul, List.mem_filter, and_imp, Bool.true_or, Bool.false_eq_true]
            exact ⟨(i + 1, zs, a2, c2), rfl, ⟨hlt', by dsimp only; omega, hleg, ho22, hE12⟩, by dsimp only; omega⟩
          | false =>
            rw [if_neg (fun h => h.elim (of_decide_eq_false rr) (of_decide_eq_false rp))] at hleg
            first | refine go6 w1 w3 d2 e0 rr rp ?_ | exact fin6 w1 w3 d2 e0 rr rp
            exact LegalQ.mk (ys := ys) hleg rfl ho12 hE12
  · have hge' : i = l.length := by have := of_decide_eq_false hge; omega
    subst hge'
    first | refine go ?_ | exact fin
    exact LegalQ.mk (ys := ys) (by rw [hleg, List.drop_length]; rfl) rfl ho hE

end Go.Proofs.YtmknkpcdfkpobaaA
