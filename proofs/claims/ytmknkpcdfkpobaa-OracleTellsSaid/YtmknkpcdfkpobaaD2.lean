/- Functions of the reference for sets. -/
import Derived.Test.YtmknkpcdfkpobaaD1
set_option linter.unusedSimpArgs false
set_option linter.unusedVariables false
namespace Go.Proofs.YtmknkpcdfkpobaaA
open Go.RowKit

def pickP (c n : Int) : Int := (if c < 0 then -(c + 1) else c).tmod n

theorem pick_spec (c n : Int) (H : AH) (h1 : -9223372036854775808 ≤ c) (h2 : c ≤ 9223372036854775807) (hn : 0 < n) : ACalls Try.prog 13 [.int .i64 c, .int .i64 n] H (fun v H' => v = .int .i64 (pickP c n) ∧ H' = H) := by
  refine enter13 ?_
  unfold ac13
  first | refine go ?_ | exact fin
  refine XB.mk' (fun h => ?_) (fun h => ?_)
  · have hc := of_decide_eq_true h
    have w1 : IntKind.i64.wrap (c + 1) = c + 1 := wrap_i64 (by omega) (by omega)
    have w2 : IntKind.i64.wrap (0 - (c + 1)) = -(c + 1) := by rw [wrap_i64 (by omega) (by omega)]; omega
    first | refine go2 w1 w2 ?_ | exact fin2 w1 w2
    refine XS.mk' (by omega) ?_
    simp (config := { dsimp := false, implicitDefEqProofs := false }) only [pickP, if_pos hc, ev_t, ev_c, putL_some, putL_none, xops_nil, xops_cons, xstep_none, xstep_some, xguard_bool, xguard_undef, xr_move, xr_raw, xr_pick, xr_load1, xr_loadN, xr_store, xr_addr, xr_elemS, xr_elemA, xr_fld1, xr_fldN, xr_lenS, xr_lenSl, xr_extract, xr_int, xr_not, xr_alloc, xr_box, xr_iface, xr_nilCheck, xr_call, xr_neg, xr_quo, xr_app, xr_appz, xr_ext, xr_cap, rcap_s, rcap_n, xr_bsl, xr_build, xr_sl, xr_mks, xw_skip, xw_ret, xw_exit, xw_ops, xw_seq, xw_cond, xw_block, xw_loop, aT_normal, aT_exit, aT_ret, iB_normal, iB_ret, iB_exit, rK_ret, rK_normal, xpick_b, xload1_p, xloadN_p, xquo_q, xquo_r, xnew_eq, xmks_eq, xcond_b, xbsl_eq, bslK_some, xsl_ex, xsl_nil, slNK_some, xsl_f, slFK_some, xload1_f, xloadN_f, base_f, slen_f, baseA_f, rlenSl_f, raddr_f, xld1_f, xldN_f, cellsL_fs, cellsL_fp, okCell_fs, okCell_fp, nonNil_fp, slK_some, rint_add, rint_sub, rint_mul, rint_eql, rint_neq, rint_lss, rint_leq, rint_gtr, rint_geq, raddr_p, base_s, slen_s, baseA_p, rfld1_a, rlenS_s, rlenSl_s, aextract_t, xnot_b, rneg_i, rbnd_n, rbnd_s, cellsL_int, cellsL_bool, cellsL_sl, cellsL_ptr, cellsL_agg, cellsL_str, cellsL_if, cellsL_nif, rbuild_eq, resTmp_t, xw_reg, xrg_nil, xrg_pu, xrg_ld, xrg_eff, xrg_both, ldOK_load1, ldOK_loadN, xld1_p, xldN_p, XPend_true, xr_nilv, xr_cvt, xr_cvs, xr_bit, xr_copy, xr_clear, rnil_sn, rnil_ss, rnil_pn, rnil_ps, rnil_ie, rnil_in, rcvt_i, rcvs_s, rbit_shr, rbit_shl, xelem_i, xr_bb, xr_eqA, xr_mm, rbb_e, rbb_n, amm2_min_i, amm2_max_i, reqA_e, reqA_n, okL_nil, okL_i, okL_b, okL_s, xelem_n, xelem_c0, xelem_e0, xelem_c1, xelem_e1, xelem_c2, xelem_e2, xelem_c3, xelem_e3, xelem_c4, xelem_e4, xelem_c5, xelem_e5, xelem_c6, xelem_e6, xelem_c7, xelem_e7, xelem_c8, xelem_e8, xelem_c9, xelem_e9, xr_slA, xr_callv, xr_inv, xr_tass, xr_mkf, fnOk_func, xslA_p, xslA_f, slAPK_some, slAFK_some, Int.reduceEq, Int.reduceLT, Int.reduceLE, Int.reduceNe, Nat.reduceLT, Nat.reduceEqDiff, Nat.reduceSub, Int.reduceNeg, Int.reduceToNat, Bool.not_true, Bool.not_not, List.set_cons_zero, List.set_cons_succ, List.getD_cons_zero, List.getD_cons_succ, List.getElem?_cons_zero, List.getElem?_cons_succ, XV_some, XB_true, XB_false, XS_true, beq_self_eq_true, Bool.not_true, Bool.not_false, ares, resAll, List.map_cons, List.map_nil, List.all_cons, List.all_nil, Bool.and_self, Bool.and_true, Bool.true_and, reduceIte, reduceCtorEq, Option.map_none, Option.map_some, Option.isSome_none, Option.isSome_some, decide_true, decide_false, beq_true, beq_false, okv_some_eq, okCell, nonNil, iB_exit_ne, Nat.reduceBEq, Nat.add_zero, Nat.zero_add, Nat.mul_one, and_self, and_true, true_and, List.nil_append, List.mem_cons, List.mem_append, List.not_mem_nil, List.append_nil, List.contains_cons, List.contains_nil, Bool.or_false, Bool.or_true, Bool.false_or, forall_eq_or_imp, forall_eq, false_or, or_false, false_implies, forall_false, implies_true, forall_const, List.cons_append, true_implies, imp_false, not_true_eq_false, not_false_eq_true, List.elem_cons, List.elem_nil, Int.toNat_natCast, Int.toNat_zero, Nat.sub_zero, Option.isNone_some, Option.isNone_none, afill, zrow_zero, zrow_succ, List.replicate_succ, List.replicate_zero, List.flatten_cons, List.flatten_nil, splice, List.take_succ_cons, List.take_zero, List.take_nil, List.drop_succ_cons, List.drop_zero, List.drop_nil, Nat.reduceMul, Nat.reduceAdd, Nat.reduceLeDiff, List.length_cons, List.length_nil, Nat.le_refl, Option.getD_some, ne_eq, Nat.zero_mul, Nat.one_mul, List.mem_filter, and_imp, Bool.true_or, Bool.false_eq_true]
  · have hc := of_decide_eq_false h
    first | refine go ?_ | exact fin
    refine XS.mk' (by omega) ?_
    simp (config := { dsimp := false, implicitDefEqProofs := false }) only [pickP, if_neg hc, ev_t, ev_c, putL_some, putL_none, xops_nil, xops_cons, xstep_none, xstep_some, xguard_bool, xguard_undef, xr_move, xr_raw, xr_pick, xr_load1, xr_loadN, xr_store, xr_addr, xr_elemS, xr_elemA, xr_fld1, xr_fldN, xr_lenS, xr_lenSl, xr_extract, xr_int, xr_not, xr_alloc, xr_box, xr_iface, xr_nilCheck, xr_call, xr_neg, xr_quo, xr_app, xr_appz, xr_ext, xr_cap, rcap_s, rcap_n, xr_bsl, xr_build, xr_sl, xr_mks, xw_skip, xw_ret, xw_exit, xw_ops, xw_seq, xw_cond, xw_block, xw_loop, aT_normal, aT_exit, aT_ret, iB_normal, iB_ret, iB_exit, rK_ret, rK_normal, xpick_b, xload1_p, xloadN_p, xquo_q, xquo_r, xnew_eq, xmks_eq, xcond_b, xbsl_eq, bslK_some, xsl_ex, xsl_nil, slNK_some, xsl_f, slFK_some, xload1_f, xloadN_f, base_f, slen_f, baseA_f, rlenSl_f, raddr_f, xld1_f, xldN_f, cellsL_fs, cellsL_fp, okCell_fs, okCell_fp, nonNil_fp, slK_some, rint_add, rint_sub, rint_mul, rint_eql, rint_neq, rint_lss, rint_leq, rint_gtr, rint_geq, raddr_p, base_s, slen_s, baseA_p, rfld1_a, rlenS_s, rlenSl_s, aextract_t, xnot_b, rneg_i, rbnd_n, rbnd_s, cellsL_int, cellsL_bool, cellsL_sl, cellsL_ptr, cellsL_agg, cellsL_str, cellsL_if, cellsL_nif, rbuild_eq, resTmp_t, xw_reg, xrg_nil, xrg_pu, xrg_ld, xrg_eff, xrg_both, ldOK_load1, ldOK_loadN, xld1_p, xldN_p, XPend_true, xr_nilv, xr_cvt, xr_cvs, xr_bit, xr_copy, xr_clear, rnil_sn, rnil_ss, rnil_pn, rnil_ps, rnil_ie, rnil_in, rcvt_i, rcvs_s, rbit_shr, rbit_shl, xelem_i, xr_bb, xr_eqA, xr_mm, rbb_e, rbb_n, amm2_min_i, amm2_max_i, reqA_e, reqA_n, okL_nil, okL_i, okL_b, okL_s, xelem_n, xelem_c0, xelem_e0, xelem_c1, xelem_e1, xelem_c2, xelem_e2, xelem_c3, xelem_e3, xelem_c4, xelem_e4, xelem_c5, xelem_e5, xelem_c6, xelem_e6, xelem_c7, xelem_e7, xelem_c8, xelem_e8, xelem_c9, xelem_e9, xr_slA, xr_callv, xr_inv, xr_tass, xr_mkf, fnOk_func, xslA_p, xslA_f, slAPK_some, slAFK_some, Int.reduceEq, Int.reduceLT, Int.reduceLE, Int.reduceNe, Nat.reduceLT, Nat.reduceEqDiff, Nat.reduceSub, Int.reduceNeg, Int.reduceToNat, Bool.not_true, Bool.not_not, List.set_cons_zero, List.set_cons_succ, List.getD_cons_zero, List.getD_cons_succ, List.getElem?_cons_zero, List.getElem?_cons_succ, XV_some, XB_true, XB_false, XS_true, beq_self_eq_true, Bool.not_true, Bool.not_false, ares, resAll, List.map_cons, List.map_nil, List.all_cons, List.all_nil, Bool.and_self, Bool.and_true, Bool.true_and, reduceIte, reduceCtorEq, Option.map_none, Option.map_some, Option.isSome_none, Option.isSome_some, decide_true, decide_false, beq_true, beq_false, okv_some_eq, okCell, nonNil, iB_exit_ne, Nat.reduceBEq, Nat.add_zero, Nat.zero_add, Nat.mul_one, and_self, and_true, true_and, List.nil_append, List.mem_cons, List.mem_append, List.not_mem_nil, List.append_nil, List.contains_cons, List.contains_nil, Bool.or_false, Bool.or_true, Bool.false_or, forall_eq_or_imp, forall_eq, false_or, or_false, false_implies, forall_false, implies_true, forall_const, List.cons_append, true_implies, imp_false, not_true_eq_false, not_false_eq_true, List.elem_cons, List.elem_nil, Int.toNat_natCast, Int.toNat_zero, Nat.sub_zero, Option.isNone_some, Option.isNone_none, afill, zrow_zero, zrow_succ, List.replicate_succ, List.replicate_zero, List.flatten_cons, List.flatten_nil, splice, List.take_succ_cons, List.take_zero, List.take_nil, List.drop_succ_cons, List.drop_zero, List.drop_nil, Nat.reduceMul, Nat.reduceAdd, Nat.reduceLeDiff, List.length_cons, List.length_nil, Nat.le_refl, Option.getD_some, ne_eq, Nat.zero_mul, Nat.one_mul, List.mem_filter, and_imp, Bool.true_or, Bool.false_eq_true]

theorem pickP_range (c n : Int) (hn : 0 < n) : 0 ≤ pickP c n ∧ pickP c n < n := by
  unfold pickP
  have h0 : 0 ≤ (if c < 0 then -(c + 1) else c) := by split <;> omega
  exact ⟨Int.tmod_nonneg _ h0, Int.tmod_lt_of_pos _ hn⟩

theorem rkey_spec (n : Int) (H : AH) : ACalls Try.prog 23 [.int .i64 n] H (fun v H' => v = .bool (keyB n) ∧ H' = H) := by
  refine enter23 ?_
  unfold ac23
  first | refine go ?_ | exact fin
  refine XB.mk' (fun h => ?_) (fun h => ?_) <;> simp (config := { dsimp := false, implicitDefEqProofs := false }) only [h, ev_t, ev_c, putL_some, putL_none, xops_nil, xops_cons, xstep_none, xstep_some, xguard_bool, xguard_undef, xr_move, xr_raw, xr_pick, xr_load1, xr_loadN, xr_store, xr_addr, xr_elemS, xr_elemA, xr_fld1, xr_fldN, xr_lenS, xr_lenSl, xr_extract, xr_int, xr_not, xr_alloc, xr_box, xr_iface, xr_nilCheck, xr_call, xr_neg, xr_quo, xr_app, xr_appz, xr_ext, xr_cap, rcap_s, rcap_n, xr_bsl, xr_build, xr_sl, xr_mks, xw_skip, xw_ret, xw_exit, xw_ops, xw_seq, xw_cond, xw_block, xw_loop, aT_normal, aT_exit, aT_ret, iB_normal, iB_ret, iB_exit, rK_ret, rK_normal, xpick_b, xload1_p, xloadN_p, xquo_q, xquo_r, xnew_eq, xmks_eq, xcond_b, xbsl_eq, bslK_some, xsl_ex, xsl_nil, slNK_some, xsl_f, slFK_some, xload1_f, xloadN_f, base_f, slen_f, baseA_f, rlenSl_f, raddr_f, xld1_f, xldN_f, cellsL_fs, cellsL_fp, okCell_fs, okCell_fp, nonNil_fp, slK_some, rint_add, rint_sub, rint_mul, rint_eql, rint_neq, rint_lss, rint_leq, rint_gtr, rint_geq, raddr_p, base_s, slen_s, baseA_p, rfld1_a, rlenS_s, rlenSl_s, aextract_t, xnot_b, rneg_i, rbnd_n, rbnd_s, cellsL_int, cellsL_bool, cellsL_sl, cellsL_ptr, cellsL_agg, cellsL_str, cellsL_if, cellsL_nif, rbuild_eq, resTmp_t, xw_reg, xrg_nil, xrg_pu, xrg_ld, xrg_eff, xrg_both, ldOK_load1, ldOK_loadN, xld1_p, xldN_p, XPend_true, xr_nilv, xr_cvt, xr_cvs, xr_bit, xr_copy, xr_clear, rnil_sn, rnil_ss, rnil_pn, rnil_ps, rnil_ie, rnil_in, rcvt_i, rcvs_s, rbit_shr, rbit_shl, xelem_i, xr_bb, xr_eqA, xr_mm, rbb_e, rbb_n, amm2_min_i, amm2_max_i, reqA_e, reqA_n, okL_nil, okL_i, okL_b, okL_s, xelem_n, xelem_c0, xelem_e0, xelem_c1, xelem_e1, xelem_c2, xelem_e2, xelem_c3, xelem_e3, xelem_c4, xelem_e4, xelem_c5, xelem_e5, xelem_c6, xelem_e6, xelem_c7, xelem_e7, xelem_c8, xelem_e8, xelem_c9, xelem_e9, xr_slA, xr_callv, xr_inv, xr_tass, xr_mkf, fnOk_func, xslA_p, xslA_f, slAPK_some, slAFK_some, Int.reduceEq, Int.reduceLT, Int.reduceLE, Int.reduceNe, Nat.reduceLT, Nat.reduceEqDiff, Nat.reduceSub, Int.reduceNeg, Int.reduceToNat, Bool.not_true, Bool.not_not, List.set_cons_zero, List.set_cons_succ, List.getD_cons_zero, List.getD_cons_succ, List.getElem?_cons_zero, List.getElem?_cons_succ, XV_some, XB_true, XB_false, XS_true, beq_self_eq_true, Bool.not_true, Bool.not_false, ares, resAll, List.map_cons, List.map_nil, List.all_cons, List.all_nil, Bool.and_self, Bool.and_true, Bool.true_and, reduceIte, reduceCtorEq, Option.map_none, Option.map_some, Option.isSome_none, Option.isSome_some, decide_true, decide_false, beq_true, beq_false, okv_some_eq, okCell, nonNil, iB_exit_ne, Nat.reduceBEq, Nat.add_zero, Nat.zero_add, Nat.mul_one, and_self, and_true, true_and, List.nil_append, List.mem_cons, List.mem_append, List.not_mem_nil, List.append_nil, List.contains_cons, List.contains_nil, Bool.or_false, Bool.or_true, Bool.false_or, forall_eq_or_imp, forall_eq, false_or, or_false, false_implies, forall_false, implies_true, forall_const, List.cons_append, true_implies, imp_false, not_true_eq_false, not_false_eq_true, List.elem_cons, List.elem_nil, Int.toNat_natCast, Int.toNat_zero, Nat.sub_zero, Option.isNone_some, Option.isNone_none, afill, zrow_zero, zrow_succ, List.replicate_succ, List.replicate_zero, List.flatten_cons, List.flatten_nil, splice, List.take_succ_cons, List.take_zero, List.take_nil, List.drop_succ_cons, List.drop_zero, List.drop_nil, Nat.reduceMul, Nat.reduceAdd, Nat.reduceLeDiff, List.length_cons, List.length_nil, Nat.le_refl, Option.getD_some, ne_eq, Nat.zero_mul, Nat.one_mul, List.mem_filter, and_imp, Bool.true_or, Bool.false_eq_true, keyB, Bool.true_and, Bool.false_and]

theorem wrap_succ {i n : Nat} (h : i < n) (hn : n ≤ 9223372036854775807) : IntKind.i64.wrap ((i : Int) + 1) = ((i + 1 : Nat) : Int) := by rw [wrap_i64 (by omega) (by omega)]; omega

theorem has_spec (xs : List Int) (k : Int) (a : Option Addr) (cap : Nat) (H : AH) (h : IntsR H xs a cap) (hb : xs.length ≤ 9223372036854775807) :
    ACalls Try.prog 21 [.slice a xs.length cap, .int .i64 k] H (fun v H' => v = .bool (xs.contains k) ∧ H' = H) := by
  refine enter21 ?_
  unfold ac21
  first | refine go ?_ | exact fin
  refine XL.loop (β := Nat) (fun i j => [.slice a xs.length cap, .int .i64 k, j 2, j 3, .bool false, .int .i64 i, j 6, j 7, j 8, j 9, j 10, j 11, j 12, j 13, j 14, j 15, j 16, j 17])
    (fun i H' => H' = H ∧ i ≤ xs.length ∧ ∀ m, m < i → xs.getD m 0 ≠ k) (fun i => xs.length - i) 0 (fun _ => undef) rfl ⟨rfl, Nat.zero_le _, fun k hk => absurd hk (Nat.not_lt_zero k)⟩ ?_
  rintro i j H' ⟨rfl, hi, hno⟩
  first | refine go ?_ | exact fin
  refine XB.mk' (fun hlt => ?_) (fun hge => ?_)
  · have hlt' : i < xs.length := by simpa using hlt
    have hw := wrap_succ hlt' hb
    first | refine go1 hlt ?_ | exact fin1 hlt
    refine xelem_int h (by omega) (by omega) fun b o hl => ?_
    first | refine go1 hl ?_ | exact fin1 hl
    refine XB.mk' (fun hc => ?_) (fun hc => ?_)
    · first | refine go ?_ | exact fin
      have : xs.contains k = true := by
        rw [List.contains_iff_mem, ← of_decide_eq_true hc]
        simp [List.getD, hlt']
      rw [this]
    · first | refine go1 hw ?_ | exact fin1 hw
      refine ⟨i + 1, rfl, ⟨by omega, fun m hm => ?_⟩, by omega⟩
      by_cases hmi : m = i
      · subst hmi; exact of_decide_eq_false hc
      · exact hno m (by omega)
  · have hge' : i = xs.length := by have := of_decide_eq_false hge; omega
    subst hge'
    first | refine go ?_ | exact fin
    have : xs.contains k = false := by
      rw [Bool.eq_false_iff, ne_eq, List.contains_iff_mem]
      intro hm
      obtain ⟨m, hm1, hm2⟩ := List.getElem_of_mem hm
      exact hno m hm1 (by simp [List.getD, hm1, hm2])
    rw [this]

theorem getD_take_succ (xs : List Int) (i : Nat) (h : i < xs.length) : xs.take (i + 1) = xs.take i ++ [xs.getD i 0] := by
  rw [List.take_succ_eq_append_getElem h]; simp [List.getD, h]

/-- without: a set without a key. -/
theorem without_spec (xs : List Int) (k : Int) (a : Option Addr) (cap : Nat) (H : AH) (h : IntsR H xs a cap) (hb : xs.length ≤ 1000000) :
    ACalls Try.prog 29 [.slice a xs.length cap, .int .i64 k] H
      (fun v H' => ∃ a' cap' ys, v = .slice a' ys.length cap' ∧ ys = xs.filter (fun x => !decide (x = k)) ∧ Own H' H.next 1 (ys.map (.int .i64)) a' ys.length cap' ∧ Ext H H') := by
  refine enter29 ?_
  unfold ac29
  first | refine go ?_ | exact fin
  refine XL.loop (β := Nat × List Int × Option Addr × Nat) (fun s j => [.slice a xs.length cap, .int .i64 k, j 2, j 3, .slice none 0 0, .slice s.2.2.1 s.2.1.length s.2.2.2, .int .i64 s.1, j 7, j 8, j 9, j 10, j 11, j 12, j 13, j 14, j 15, j 16, j 17, j 18, j 19, j 20, j 21, j 22, j 23, j 24, j 25, j 26])
    (fun s H' => s.1 ≤ xs.length ∧ s.2.1 = (xs.take s.1).filter (fun x => !decide (x = k)) ∧ Own H' H.next 1 (s.2.1.map (.int .i64)) s.2.2.1 s.2.1.length s.2.2.2 ∧ Ext H H')
    (fun s => xs.length - s.1) (0, [], none, 0) (fun _ => undef) rfl ⟨Nat.zero_le _, rfl, Own.nil H _ _, Ext.refl H⟩ ?_
  rintro ⟨i, ys, a1, c1⟩ j H' ⟨hi, hys, ho, hE⟩
  dsimp only at hi hys ho hE ⊢
  first | refine go ?_ | exact fin
  refine XB.mk' (fun hlt => ?_) (fun hge => ?_)
  · have hlt' : i < xs.length := by simpa using hlt
    have hw := wrap_succ hlt' (Nat.le_trans hb (by decide))
    have htk := getD_take_succ xs i hlt'
    have hyl : ys.length ≤ i := by rw [hys]; exact Nat.le_trans (List.length_filter_le _ _) (by simp; omega)
    first | refine go1 hlt ?_ | exact fin1 hlt
    refine xelem_int (h.ext hE) (by omega) (by omega) fun b o hl => ?_
    first | refine go1 hl ?_ | exact fin1 hl
    refine XB.mk' (fun hc => ?_) (fun hc => ?_)
    · first | refine go ?_ | exact fin
      refine xelem_int (h.ext hE) (by omega) (by omega) fun b o hl => ?_
      first | refine go1 hl ?_ | exact fin1 hl
      refine XBsl.z rfl ?_
      refine go ?_
      refine XApp.oneF (z := [.int .i64 0]) ho rfl (by omega) hE.next fun a' cap' H2 ho2 hm => ?_
      first | refine go1 hw ?_ | exact fin1 hw
      refine ⟨(i + 1, ys ++ [xs.getD i 0], a', cap'), by simp, ⟨by omega, ?_, by simpa using ho2, Mod.ext hE ho hm⟩, by dsimp only; omega⟩
      dsimp only
      rw [htk, List.filter_append, ← hys]
      simp only [List.filter_cons, List.filter_nil, hc, if_true]
    · first | refine go1 hw ?_ | exact fin1 hw
      refine ⟨(i + 1, ys, a1, c1), rfl, ⟨by omega, ?_, ho, hE⟩, by dsimp only; omega⟩
      dsimp only
      rw [htk, List.filter_append, ← hys]
      simp only [List.filter_cons, List.filter_nil, hc]
      simp
  · have hge' : i = xs.length := by have := of_decide_eq_false hge; omega
    subst hge'
    first | refine go ?_ | exact fin
    rw [List.take_length] at hys
    exact ⟨a1, c1, ys, rfl, hys, ho, hE⟩

/-- A set with a key that it has not: ahead of the first greater one. -/
def ins (k : Int) : List Int → List Int
  | [] => [k]
  | x :: l => if k < x then k :: x :: l else x :: ins k l

theorem ins_done (k : Int) : ∀ (l m : List Int), (∃ x ∈ l, k < x) → ins k (l ++ m) = ins k l ++ m
  | [], _, h => by obtain ⟨x, hx, _⟩ := h; cases hx
  | x :: l, m, h => by
    simp only [ins, List.cons_append]
    split
    · simp
    · rename_i hx
      rw [ins_done k l m (by
        obtain ⟨y, hy, hk⟩ := h
        rw [List.mem_cons] at hy
        rcases hy with rfl | hy
        · exact absurd hk hx
        · exact ⟨y, hy, hk⟩)]
      simp

theorem ins_not (k : Int) : ∀ (l m : List Int), (∀ x ∈ l, ¬ k < x) → ins k (l ++ m) = l ++ ins k m
  | [], _, _ => rfl
  | x :: l, m, h => by
    simp only [ins, List.cons_append]
    rw [if_neg (h x (by simp)), ins_not k l m fun y hy => h y (by simp [hy])]

theorem ins_length (k : Int) : ∀ l : List Int, (ins k l).length = l.length + 1
  | [] => rfl
  | x :: l => by
    simp only [ins]
    split
    · simp
    · simp [ins_length k l]

/-- with: what stands in out at place i. -/
def withAt (k : Int) (xs : List Int) (i : Nat) (done : Bool) : List Int := if done then ins k (xs.take i) else xs.take i

theorem with_spec (xs : List Int) (k : Int) (a : Option Addr) (cap : Nat) (H : AH) (h : IntsR H xs a cap) (hb : xs.length ≤ 1000000) :
    ACalls Try.prog 28 [.slice a xs.length cap, .int .i64 k] H
      (fun v H' => ∃ a' cap' ys, v = .slice a' ys.length cap' ∧ ys = ins k xs ∧ Own H' H.next 1 (ys.map (.int .i64)) a' ys.length cap' ∧ Ext H H') := by
  refine enter28 ?_
  unfold ac28
  first | refine go ?_ | exact fin
  refine XL.loop (β := Nat × Bool × List Int × Option Addr × Nat) (fun s j => [.slice a xs.length cap, .int .i64 k, j 2, j 3, .slice none 0 0, .slice s.2.2.2.1 s.2.2.1.length s.2.2.2.2, .bool s.2.1, .int .i64 s.1, j 8, j 9, j 10, j 11, j 12, j 13, j 14, j 15, j 16, j 17, j 18, j 19, j 20, j 21, j 22, j 23, j 24, j 25, j 26, j 27, j 28, j 29, j 30, j 31, j 32, j 33, j 34, j 35, j 36, j 37, j 38, j 39, j 40, j 41])
    (fun s H' => s.1 ≤ xs.length ∧ s.2.2.1 = withAt k xs s.1 s.2.1 ∧ (if s.2.1 then ∃ x ∈ xs.take s.1, k < x else ∀ x ∈ xs.take s.1, ¬ k < x) ∧ Own H' H.next 1 (s.2.2.1.map (.int .i64)) s.2.2.2.1 s.2.2.1.length s.2.2.2.2 ∧ Ext H H')
    (fun s => xs.length - s.1) (0, false, [], none, 0) (fun _ => undef) rfl ⟨Nat.zero_le _, rfl, by simp, Own.nil H _ _, Ext.refl H⟩ ?_
  rintro ⟨i, dn, ys, a1, c1⟩ j H' ⟨hi, hys, hd, ho, hE⟩
  dsimp only at hi hys hd ho hE ⊢
  have hyl : ys.length ≤ i + 1 := by
    rw [hys]; unfold withAt
    split
    · rw [ins_length]; simp; omega
    · simp; omega
  first | refine go ?_ | exact fin
  refine XB.mk' (fun hlt => ?_) (fun hge => ?_)
  · have hlt' : i < xs.length := by simpa using hlt
    have hw := wrap_succ hlt' (Nat.le_trans hb (by decide))
    have htk := getD_take_succ xs i hlt'
    first | refine go1 hlt ?_ | exact fin1 hlt
    -- what is appended at last, and the round's end
    cases dn with
    | true =>
      simp only [if_true] at hd
      first | refine go ?_ | exact fin
      refine xelem_int (h.ext hE) (by omega) (by omega) fun b o hl => ?_
      first | refine go1 hl ?_ | exact fin1 hl
      refine XBsl.z rfl ?_
      refine go ?_
      refine XApp.oneF (z := [.int .i64 0]) ho rfl (by omega) hE.next fun a' cap' H2 ho2 hm => ?_
      first | refine go1 hw ?_ | exact fin1 hw
      refine ⟨(i + 1, true, ys ++ [xs.getD i 0], a', cap'), by simp, ⟨by omega, ?_, ?_, by simpa using ho2, Mod.ext hE ho hm⟩, by dsimp only; omega⟩
      · dsimp only
        simp only [withAt, if_true] at hys ⊢
        rw [htk, ins_done k _ _ hd, hys]
      · simp only [if_true]
        obtain ⟨x, hx, hk⟩ := hd
        exact ⟨x, by rw [htk]; simp [hx], hk⟩
    | false =>
      simp only [Bool.false_eq_true, if_false] at hd
      first | refine go ?_ | exact fin
      refine xelem_int (h.ext hE) (by omega) (by omega) fun b o hl => ?_
      first | refine go1 hl ?_ | exact fin1 hl
      refine XB.mk' (fun hc => ?_) (fun hc => ?_)
      · have hc' := of_decide_eq_true hc
        first | refine go ?_ | exact fin
        refine XBsl.z rfl ?_
        refine go ?_
        refine XApp.oneF (z := [.int .i64 0]) ho rfl (by omega) hE.next fun a' cap' H2 ho2 hm => ?_
        first | refine go ?_ | exact fin
        have hE2 := Mod.ext hE ho hm
        refine xelem_int (h.ext hE2) (by omega) (by omega) fun b o hl => ?_
        first | refine go1 hl ?_ | exact fin1 hl
        refine XBsl.z rfl ?_
        refine go ?_
        refine XApp.oneF (z := [.int .i64 0]) ho2 rfl (by omega) hE2.next fun a2 cap2 H3 ho3 hm3 => ?_
        first | refine go1 hw ?_ | exact fin1 hw
        refine ⟨(i + 1, true, ys ++ [k] ++ [xs.getD i 0], a2, cap2), by simp, ⟨by omega, ?_, ?_, by simpa using ho3, Mod.ext hE2 ho2 hm3⟩, by dsimp only; omega⟩
        · dsimp only
          simp only [withAt, if_true, Bool.false_eq_true, if_false] at hys ⊢
          rw [htk, ins_not k _ _ hd, hys]
          simp only [ins, if_pos hc', List.append_assoc, List.cons_append, List.nil_append]
        · simp only [if_true]
          exact ⟨xs.getD i 0, by rw [htk]; simp, hc'⟩
      · have hc' := of_decide_eq_false hc
        first | refine go ?_ | exact fin
        refine xelem_int (h.ext hE) (by omega) (by omega) fun b o hl => ?_
        first | refine go1 hl ?_ | exact fin1 hl
        refine XBsl.z rfl ?_
        refine go ?_
        refine XApp.oneF (z := [.int .i64 0]) ho rfl (by omega) hE.next fun a' cap' H2 ho2 hm => ?_
        first | refine go1 hw ?_ | exact fin1 hw
        refine ⟨(i + 1, false, ys ++ [xs.getD i 0], a', cap'), by simp, ⟨by omega, ?_, ?_, by simpa using ho2, Mod.ext hE ho hm⟩, by dsimp only; omega⟩
        · dsimp only
          simp only [withAt, Bool.false_eq_true, if_false] at hys ⊢
          rw [htk, hys]
        · simp only [Bool.false_eq_true, if_false]
          intro x hx
          rw [htk, List.mem_append, List.mem_singleton] at hx
          rcases hx with hx | rfl
          · exact hd x hx
          · exact hc'
  · have hge' : i = xs.length := by have := of_decide_eq_false hge; omega
    subst hge'
    first | refine go ?_ | exact fin
    rw [List.take_length] at hd
    cases dn with
    | true =>
      simp only [withAt, if_true, List.take_length] at hys hd
      first | refine go ?_ | exact fin
      exact ⟨a1, c1, ys, rfl, hys, ho, hE⟩
    | false =>
      simp only [withAt, Bool.false_eq_true, if_false, List.take_length] at hys hd
      first | refine go ?_ | exact fin
      refine XBsl.z rfl ?_
      refine go ?_
      refine XApp.oneF (z := [.int .i64 0]) ho rfl (by omega) hE.next fun a' cap' H2 ho2 hm => ?_
      first | refine go ?_ | exact fin
      refine ⟨a', cap', ys ++ [k], by simp, ?_, by simpa using ho2, Mod.ext hE ho hm⟩
      have := ins_not k xs [] hd
      rw [List.append_nil] at this
      rw [this, hys]; rfl

/-- Ints: are two lists the same? -/
theorem ints_spec (xs ys : List Int) (a b : Option Addr) (ca cb : Nat) (H : AH) (hx : IntsR H xs a ca) (hy : IntsR H ys b cb) (hb : xs.length ≤ 9223372036854775807) (hb2 : ys.length ≤ 9223372036854775807) :
    ACalls Try.prog 16 [.slice a xs.length ca, .slice b ys.length cb] H (fun v H' => v = .bool (decide (xs = ys)) ∧ H' = H) := by
  refine enter16 ?_
  unfold ac16
  first | refine go ?_ | exact fin
  refine XB.mk' (fun hne => ?_) (fun heq => ?_)
  · first | refine go ?_ | exact fin
    have : ¬ xs = ys := by rintro rfl; simp at hne
    simp [this]
  · have hl : xs.length = ys.length := by
      have : (↑xs.length : Int) = ↑ys.length := by simpa using heq
      omega
    first | refine go ?_ | exact fin
    refine XL.loop (β := Nat) (fun i j => [.slice a xs.length ca, .slice b ys.length cb, j 2, j 3, .bool false, .int .i64 i, j 6, j 7, j 8, j 9, j 10, j 11, j 12, j 13, j 14, j 15, j 16, j 17, j 18, j 19, j 20, j 21, j 22, j 23, j 24, j 25])
      (fun i H' => H' = H ∧ i ≤ xs.length ∧ xs.take i = ys.take i) (fun i => xs.length - i) 0 (fun n => [undef, undef, undef, undef, undef, undef, .slice a xs.length ca, .int .i64 xs.length, .slice b ys.length cb, .int .i64 ys.length, .bool (!decide ((xs.length : Int) = ys.length))].getD n undef) rfl ⟨rfl, Nat.zero_le _, by simp⟩ ?_
    rintro i j H' ⟨rfl, hi, hsame⟩
    first | refine go ?_ | exact fin
    refine XB.mk' (fun hlt => ?_) (fun hge => ?_)
    · have hlt' : i < xs.length := by simpa using hlt
      have hw := wrap_succ hlt' hb
      first | refine go1 hlt ?_ | exact fin1 hlt
      refine xelem_int hx (by omega) (by omega) fun b1 o1 hl1 => ?_
      first | refine go1 hl1 ?_ | exact fin1 hl1
      refine xelem_int hy (by omega) (by omega) fun b2 o2 hl2 => ?_
      first | refine go1 hl2 ?_ | exact fin1 hl2
      refine XB.mk' (fun hc => ?_) (fun hc => ?_)
      · first | refine go ?_ | exact fin
        have : ¬ xs = ys := by rintro rfl; simp at hc
        simp [this]
      · have hc' : xs.getD i 0 = ys.getD i 0 := by simpa using hc
        first | refine go1 hw ?_ | exact fin1 hw
        refine ⟨i + 1, rfl, ⟨by omega, ?_⟩, by omega⟩
        rw [getD_take_succ xs i hlt', getD_take_succ ys i (by omega), hsame, hc']
    · have hge' : i = xs.length := by have := of_decide_eq_false hge; omega
      subst hge'
      first | refine go ?_ | exact fin
      have : xs = ys := by
        rw [List.take_length, hl, List.take_length] at hsame; exact hsame
      simp [this]

end Go.Proofs.YtmknkpcdfkpobaaA
