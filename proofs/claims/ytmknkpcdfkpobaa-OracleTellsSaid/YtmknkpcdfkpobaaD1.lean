import Derived.Test.YtmknkpcdfkpobaaC
import Derived.Test.YtmknkpcdfkpobaaA21
set_option linter.unusedSimpArgs false
namespace Go.Proofs.YtmknkpcdfkpobaaA
open Go.RowKit

def keyB (n : Int) : Bool := decide (-1099511627776 ≤ n) && decide (n ≤ 1099511627776)

theorem key_spec (n : Int) (H : AH) : ACalls Try.prog 22 [.int .i64 n] H (fun v H' => v = .bool (keyB n) ∧ H' = H) := by
  refine enter22 ?_
  unfold ac22
  first | refine go ?_ | exact fin
  refine XB.mk' (fun h => ?_) (fun h => ?_) <;> simp (config := { dsimp := false, implicitDefEqProofs := false }) only [h, ev_t, ev_c, putL_some, putL_none, xops_nil, xops_cons, xstep_none, xstep_some, xguard_bool, xguard_undef, xr_move, xr_raw, xr_pick, xr_load1, xr_loadN, xr_store, xr_addr, xr_elemS, xr_elemA, xr_fld1, xr_fldN, xr_lenS, xr_lenSl, xr_extract, xr_int, xr_not, xr_alloc, xr_box, xr_iface, xr_nilCheck, xr_call, xr_neg, xr_quo, xr_app, xr_appz, xr_ext, xr_cap, rcap_s, rcap_n, xr_bsl, xr_build, xr_sl, xr_mks, xw_skip, xw_ret, xw_exit, xw_ops, xw_seq, xw_cond, xw_block, xw_loop, aT_normal, aT_exit, aT_ret, iB_normal, iB_ret, iB_exit, rK_ret, rK_normal, xpick_b, xload1_p, xloadN_p, xquo_q, xquo_r, xnew_eq, xmks_eq, xcond_b, xbsl_eq, bslK_some, xsl_ex, xsl_nil, slNK_some, xsl_f, slFK_some, xload1_f, xloadN_f, base_f, slen_f, baseA_f, rlenSl_f, raddr_f, xld1_f, xldN_f, cellsL_fs, cellsL_fp, okCell_fs, okCell_fp, nonNil_fp, slK_some, rint_add, rint_sub, rint_mul, rint_eql, rint_neq, rint_lss, rint_leq, rint_gtr, rint_geq, raddr_p, base_s, slen_s, baseA_p, rfld1_a, rlenS_s, rlenSl_s, aextract_t, xnot_b, rneg_i, rbnd_n, rbnd_s, cellsL_int, cellsL_bool, cellsL_sl, cellsL_ptr, cellsL_agg, cellsL_str, cellsL_if, cellsL_nif, rbuild_eq, resTmp_t, xw_reg, xrg_nil, xrg_pu, xrg_ld, xrg_eff, xrg_both, ldOK_load1, ldOK_loadN, xld1_p, xldN_p, XPend_true, xr_nilv, xr_cvt, xr_cvs, xr_bit, xr_copy, xr_clear, rnil_sn, rnil_ss, rnil_pn, rnil_ps, rnil_ie, rnil_in, rcvt_i, rcvs_s, rbit_shr, rbit_shl, xelem_i, xr_bb, xr_eqA, xr_mm, rbb_e, rbb_n, amm2_min_i, amm2_max_i, reqA_e, reqA_n, okL_nil, okL_i, okL_b, okL_s, xelem_n, xelem_c0, xelem_e0, xelem_c1, xelem_e1, xelem_c2, xelem_e2, xelem_c3, xelem_e3, xelem_c4, xelem_e4, xelem_c5, xelem_e5, xelem_c6, xelem_e6, xelem_c7, xelem_e7, xelem_c8, xelem_e8, xelem_c9, xelem_e9, xr_slA, xr_callv, xr_inv, xr_tass, xr_mkf, fnOk_func, xslA_p, xslA_f, slAPK_some, slAFK_some, Int.reduceEq, Int.reduceLT, Int.reduceLE, Int.reduceNe, Nat.reduceLT, Nat.reduceEqDiff, Nat.reduceSub, Int.reduceNeg, Int.reduceToNat, Bool.not_true, Bool.not_not, List.set_cons_zero, List.set_cons_succ, List.getD_cons_zero, List.getD_cons_succ, List.getElem?_cons_zero, List.getElem?_cons_succ, XV_some, XB_true, XB_false, XS_true, beq_self_eq_true, Bool.not_true, Bool.not_false, ares, resAll, List.map_cons, List.map_nil, List.all_cons, List.all_nil, Bool.and_self, Bool.and_true, Bool.true_and, reduceIte, reduceCtorEq, Option.map_none, Option.map_some, Option.isSome_none, Option.isSome_some, decide_true, decide_false, beq_true, beq_false, okv_some_eq, okCell, nonNil, iB_exit_ne, Nat.reduceBEq, Nat.add_zero, Nat.zero_add, Nat.mul_one, and_self, and_true, true_and, List.nil_append, List.mem_cons, List.mem_append, List.not_mem_nil, List.append_nil, List.contains_cons, List.contains_nil, Bool.or_false, Bool.or_true, Bool.false_or, forall_eq_or_imp, forall_eq, false_or, or_false, false_implies, forall_false, implies_true, forall_const, List.cons_append, true_implies, imp_false, not_true_eq_false, not_false_eq_true, List.elem_cons, List.elem_nil, Int.toNat_natCast, Int.toNat_zero, Nat.sub_zero, Option.isNone_some, Option.isNone_none, afill, zrow_zero, zrow_succ, List.replicate_succ, List.replicate_zero, List.flatten_cons, List.flatten_nil, splice, List.take_succ_cons, List.take_zero, List.take_nil, List.drop_succ_cons, List.drop_zero, List.drop_nil, Nat.reduceMul, Nat.reduceAdd, Nat.reduceLeDiff, List.length_cons, List.length_nil, Nat.le_refl, Option.getD_some, ne_eq, Nat.zero_mul, Nat.one_mul, List.mem_filter, and_imp, Bool.true_or, Bool.false_eq_true, keyB, Bool.true_and, Bool.false_and]

def okAt (xs : List Int) (i : Nat) : Bool := keyB (xs.getD i 0) && (decide (i = 0) || decide (xs.getD (i - 1) 0 < xs.getD i 0))
def Right (xs : List Int) : Bool := (List.range xs.length).all (okAt xs) && decide (xs.length ≤ 1000)

theorem oRight_spec (xs : List Int) (a : Option Addr) (cap : Nat) (H : AH) (h : IntsR H xs a cap) (hb : xs.length ≤ 9223372036854775807) :
    ACalls Try.prog 11 [.slice a xs.length cap] H (fun v H' => v = .bool (Right xs) ∧ H' = H) := by
  refine enter11 ?_
  unfold ac11
  first | refine go ?_ | exact fin
  refine XL.loop (β := Nat) (fun i j => [.slice a xs.length cap, j 1, .bool false, j 3, j 4, .slice a xs.length cap, .int .i64 xs.length, .int .i64 i, j 8, j 9, j 10, j 11, j 12, j 13, j 14, j 15, j 16, j 17, j 18, j 19, j 20, j 21, j 22, j 23, j 24, j 25, j 26, j 27, j 28, j 29, j 30, j 31])
    (fun i H' => H' = H ∧ i ≤ xs.length ∧ ∀ k, k < i → okAt xs k = true) (fun i => xs.length - i) 0 (fun _ => undef) rfl ⟨rfl, Nat.zero_le _, fun k hk => absurd hk (Nat.not_lt_zero k)⟩ ?_
  rintro i j H' ⟨rfl, hi, hok⟩
  first | refine go ?_ | exact fin
  refine XB.mk' (fun hlt => ?_) (fun hge => ?_)
  · have hlt' : i < xs.length := by simpa using hlt
    first | refine go1 hlt ?_ | exact fin1 hlt
    refine xelem_int h (by omega) (by omega) fun b o hl => ?_
    first | refine go1 hl ?_ | exact fin1 hl
    refine XC.mk' (key_spec _ _) ?_
    rintro v H' ⟨rfl, rfl⟩
    have hw : IntKind.i64.wrap ((i : Int) + 1) = ((i + 1 : Nat) : Int) := by rw [wrap_i64 (by omega) (by omega)]; omega
    cases hk : keyB (xs.getD i 0) with
    | false =>
      first | refine go1 hk ?_ | exact fin1 hk
      have : Right xs = false := by
        unfold Right
        rw [Bool.and_eq_false_iff, List.all_eq_false]
        exact .inl ⟨i, by simpa using hlt', by simp only [okAt, hk, Bool.false_and]; decide⟩
      simp [this]
    | true =>
      first | refine go1 hk ?_ | exact fin1 hk
      refine XB.mk' (fun h0 => ?_) (fun h0 => ?_)
      · have h0' : 0 < i := by simpa using h0
        have hw1 : IntKind.i64.wrap ((i : Int) - 1) = ((i - 1 : Nat) : Int) := by rw [wrap_i64 (by omega) (by omega)]; omega
        first | refine go2 h0 hw1 ?_ | exact fin2 h0 hw1
        refine xelem_int h (by omega) (by omega) fun b o hl2 => ?_
        first | refine go2 hl2 h0 ?_ | exact fin2 hl2 h0
        refine XB.mk' (fun hc => ?_) (fun hc => ?_)
        · first | refine go2 hc h0 ?_ | exact fin2 hc h0
          have : Right xs = false := by
            unfold Right
            rw [Bool.and_eq_false_iff, List.all_eq_false]
            refine .inl ⟨i, by simpa using hlt', ?_⟩
            have h2 := of_decide_eq_true hc
            have e1 : decide (i = 0) = false := decide_eq_false (by omega)
            have e2 : decide (xs.getD (i - 1) 0 < xs.getD i 0) = false := decide_eq_false (by omega)
            simp only [okAt, hk, e1, e2]; decide
          simp [this]
        · first | refine go3 hc h0 hw ?_ | exact fin3 hc h0 hw
          refine ⟨i + 1, rfl, ⟨by omega, fun k hk' => ?_⟩, by omega⟩
          by_cases hki : k = i
          · subst hki
            have h2 := of_decide_eq_false hc
            have e2 : decide (xs.getD (k - 1) 0 < xs.getD k 0) = true := decide_eq_true (by omega)
            simp only [okAt, hk, e2, Bool.or_true, Bool.and_self]
          · exact hok k (by omega)
      · have h0' : i = 0 := by have := of_decide_eq_false h0; omega
        subst h0'
        first | refine go2 h0 hw ?_ | exact fin2 h0 hw
        refine ⟨0 + 1, rfl, ⟨by omega, fun k hk' => ?_⟩, by omega⟩
        have : k = 0 := by omega
        subst this
        simp only [okAt, hk, decide_true, Bool.true_or, Bool.and_self]
  · have hge' : i = xs.length := by have := of_decide_eq_false hge; omega
    subst hge'
    first | refine go1 hge ?_ | exact fin1 hge
    have : Right xs = decide ((xs.length : Int) ≤ 1000) := by
      unfold Right
      have : (List.range xs.length).all (okAt xs) = true := by
        rw [List.all_eq_true]; intro k hk; exact hok k (by simpa using hk)
      rw [this, Bool.true_and, Bool.eq_iff_iff]
      simp
      omega
    simp [this]
end Go.Proofs.YtmknkpcdfkpobaaA
