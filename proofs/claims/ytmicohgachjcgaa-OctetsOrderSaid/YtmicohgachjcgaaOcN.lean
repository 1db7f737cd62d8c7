/- Two laws of the octets' chapter: a reader that is nil; the order of numbers' bytes. -/
import Derived.Test.YtmicohgachjcgaaOcAll
set_option maxRecDepth 100000
set_option linter.unusedSimpArgs false
set_option linter.unusedVariables false
set_option maxHeartbeats 2000000
namespace Go.Proofs.Ytmicohgachjcgaa.Oc
open Go Go.Proofs.Ytmicohgachjcgaa.Am OcFns Go.RowKit

theorem run7 (n : Int) (H : AHeap) : Ans (AC A 7 [.int .i64 n] H) (.bool true) := by
  rw [s_fn (A := A) (f := 7) (x := OcFns.c7) rfl rfl rfl]
  have e : (([] : List UInt8) == []) = true := rfl
  simp only [c7, U34n, U36n, U38n, U39n, U40n, U41n, U15, b_seq, s_seq, s_region, s_op, s_nil, s_grd, grd_t, grd_f, grd_u, s_cond, condX_bool, s_block, blockX_normal, blockX_exit, blockX_ret, blockX_cnd, blockX_none, o_mv, o_bin, o_un, o_pick, pick_bool, o_call, o_extract, ext_tuple, o_eq, o_toInt, int_int, o_field, field_agg, o_fieldA, fieldA_ptr, o_len, len_slice, len_nils, len_str, Nat.add_assoc, o_lenC, o_minmax, o_idxASl, idxASl_slice, new_obj, new_next, set_obj, set_next, noH_obj, noH_next, load_ptr, loadX_cells, apart_one, apart_agg, apart_all, store_ptr, storeX_cells, put_nil, put_cons, lput_whole, cells_agg, cells_int, cells_bool, cells_str, cells_slice, cells_nils, cells_ptr, tup_agg, tup_int, tup_bool, tup_str, tup_slice, tup_nils, tup_ptr, o_box, box_ok, fill_nil, fill_cons, s_draw, stepD_some, d_still, d_nil, ok_01, ok_12, ok_23, ok_02, ok_13, ok_03, okAt_some, rdOk_load, beqO_some, beq_same, all_nil, all_cons, if_true', eff_mv, eff_pick, eff_load, eff_bin, eff_eq, eff_un, eff_toInt, eff_call, eff_extract, eff_fieldA, eff_field, eff_idxASl, eff_len, eff_minmax, eff_build, eff_slc, eff_append, eff_new, eff_box, eff_store, eff_buildS, eff_nilck, eff_idxAArr, eff_idxArr, eff_idxStr, eff_slcStr, eff_slcArr, eff_mkFn, eff_idS, eff_bToS, eff_sToB, eff_mkS, eff_copy, eff_clearS, eff_mkIface, eff_lenC, or_self, imp_self, eq_self, d_op, d_rd, d_gt, d_gf, d_nt, d_nf, d_nu, aop_load, ans_some, cell_some, List.length_cons, List.length_nil, List.take_succ_cons, List.take_zero, List.drop_zero, List.drop_succ_cons, List.set_cons_zero, List.set_cons_succ, List.mem_cons, List.not_mem_nil, Nat.reduceAdd, Nat.reduceMul, Nat.reduceLeDiff, Int.reduceEq, Int.reduceLT, Int.reduceLE, Int.reduceAdd, Int.reduceSub, Int.reduceMul, Nat.zero_add, Nat.add_zero, Option.some.injEq, forall_eq_or_imp, forall_eq, or_false, and_self, false_imp_iff, implies_true, o_new, o_load, o_store, o_build, o_slc, o_append, o_buildS, buildX_some, o_sToB, sToB_str, o_idS', idS_str, o_bToS, o_nilck, nilck_ptr, nilck_fn, e_nilp0, e_nilp1, e_nilp2, e_nils0, e_nils1, o_mkFn, o_mkS, o_copy, o_clearS, clrX_some, o_idxAArr, idxAArr_ptr, o_idxArr, idxArr_agg, o_idxStr, idxStr_str, o_slcStr, slcStr_str, o_slcArr, o_mkIface, Nat.mul_one, stepO_some, stepO_cnd, stepO_none, setd_some, setd_none, set_get, ev_tmp, ev_con, init_get, List.getD_cons_zero, List.getD_cons_succ, List.map_cons, List.map_nil, List.append_nil, List.nil_append, List.cons_append, List.getElem?_cons_zero, List.getElem?_cons_succ, b_eql, b_neq, b_lss, b_leq, b_gtr, b_geq, b_add, b_sub, b_mul, b_quo, b_rem, u_not, u_neg, m_max, m_min, e_int, neg_f, neg_t, eqX_some, fldX_some, e_fld, e_fend, e_bool, e_str, Bool.and_true, beq_self_eq_true, vX_some, vX_none, vX_cnd, hX_some, hX_none, outX_some, outX_none, outX_cnd, seqX_cnd, seqX_normal, seqX_exit, seqX_ret, seqX_none, AX_skip, AX_ret, AX_exit, endX_cnd, endX_normal, endX_ret, endX_none, res_nil, res_tmp, res_cell, cons_some, cell_some, retX_some, ret_one, ret_nil, ret_two, call_fn, Option.map_some, Option.map_none, Option.bind_some, ↓reduceIte, Nat.reduceEqDiff, reduceCtorEq, ↓cnd_true, ↓cnd_false, Bool.not_true, Bool.not_false, decide_true, decide_false, b_seq, b_sne, b_sls, b_sge, b_tf, b_ft, Nat.left_eq_add, Nat.add_eq_left, eq_self, bne_self_eq_false]

theorem law7 (H : AHeap) (args : List AVal) (dats : List Dat) (h : AArgs Try.prog H [3] args dats) : ∃ k H', acall A k 7 args H = some (.bool true, H') := by
  obtain ⟨v0, r, d0, ds, rfl, rfl, h0, h⟩ := args_cons h
  obtain rfl := args_nil h
  obtain ⟨n, rfl, _⟩ := arg_int Try.underlying3 h0
  obtain ⟨H', hr⟩ := run7 n H
  obtain ⟨k, hk⟩ := AC_iff.1 hr
  exact ⟨k, H', hk⟩

/-! ### In order -/
theorem encl_succ (w n : Nat) : encl (w + 1) n = UInt8.ofNat (n / 256 ^ w) :: encl w n := by
  simp only [encl, List.range_succ_eq_map, List.map_cons, List.map_map, Nat.add_sub_cancel, Nat.sub_zero]
  congr 1
  apply List.map_congr_left
  intro j hj
  simp only [Function.comp]
  rw [show w - (j + 1) = w - 1 - j by omega]

theorem encl_less : ∀ (w n m : Nat), n / 256 ^ w = m / 256 ^ w → Op.bytesLess (encl w n) (encl w m) = decide (n < m)
  | 0, n, m, h => by
    simp at h
    subst h
    simp [encl, Op.bytesLess]
  | w + 1, n, m, h => by
    rw [encl_succ, encl_succ]
    simp only [Op.bytesLess]
    have hp : 0 < 256 ^ w := Nat.pow_pos (by decide)
    have hn : n / 256 ^ w = 256 * (n / 256 ^ (w + 1)) + n / 256 ^ w % 256 := by
      rw [Nat.pow_succ, ← Nat.div_div_eq_div_mul]; omega
    have hm : m / 256 ^ w = 256 * (m / 256 ^ (w + 1)) + m / 256 ^ w % 256 := by
      rw [Nat.pow_succ, ← Nat.div_div_eq_div_mul]; omega
    have a1 : (UInt8.ofNat (n / 256 ^ w)).toNat = n / 256 ^ w % 256 := by simp
    have a2 : (UInt8.ofNat (m / 256 ^ w)).toNat = m / 256 ^ w % 256 := by simp
    by_cases heq : n / 256 ^ w = m / 256 ^ w
    · rw [encl_less w n m heq, heq]
      have : ¬ (UInt8.ofNat (m / 256 ^ w) < UInt8.ofNat (m / 256 ^ w)) := UInt8.lt_irrefl _
      simp [this]
    · have hne : ¬ (UInt8.ofNat (n / 256 ^ w) = UInt8.ofNat (m / 256 ^ w)) := fun e => by
        have := congrArg UInt8.toNat e
        rw [a1, a2] at this
        omega
      have hlt : (UInt8.ofNat (n / 256 ^ w) < UInt8.ofNat (m / 256 ^ w)) ↔ n < m := by
        rw [UInt8.lt_iff_toNat_lt, a1, a2]
        constructor
        · intro hl
          have h1 : n / 256 ^ w < m / 256 ^ w := by omega
          rcases Nat.lt_or_ge n m with h2 | h2
          · exact h2
          · have := Nat.div_le_div_right (c := 256 ^ w) h2
            omega
        · intro hl
          have := Nat.div_le_div_right (c := 256 ^ w) (Nat.le_of_lt hl)
          omega
      have hb : (UInt8.ofNat (n / 256 ^ w) == UInt8.ofNat (m / 256 ^ w)) = false := by simpa using hne
      rw [hb, Bool.false_and, Bool.or_false, decide_eq_decide]
      exact hlt

theorem num8 (n : Nat) : num 8 n = encl 8 n := by simp [num]
theorem less8 (n m : Nat) (hn : n < 18446744073709551616) (hm : m < 18446744073709551616) : Op.bytesLess (num 8 n) (num 8 m) = decide (n < m) := by
  rw [num8, num8]
  refine encl_less 8 n m ?_
  rw [Nat.div_eq_of_lt (by omega), Nat.div_eq_of_lt (by omega)]

theorem run6 (n m : Nat) (hn : n < 18446744073709551616) (hm : m < 18446744073709551616) (H : AHeap) : Ans (AC A 6 [.int .u64 (n : Int), .int .u64 (m : Int)] H) (.bool true) := by
  rw [s_fn (A := A) (f := 6) (x := OcFns.c6) rfl rfl rfl]
  have l1 : ((num 8 n).length : Int) = 8 := by rw [num8, encl_len]; rfl
  have l2 : ((num 8 (18446744073709551615 - n)).length : Int) = 8 := by rw [num8, encl_len]; rfl
  have d1 : decide ((n : Int) < (m : Int)) = decide (n < m) := by rw [decide_eq_decide]; omega
  have d2 : decide ((m : Int) < (n : Int)) = decide (m < n) := by rw [decide_eq_decide]; omega
  have d3 : decide (18446744073709551615 - n < 18446744073709551615 - m) = decide (m < n) := by rw [decide_eq_decide]; omega
  simp only [c6, U15, U23, U24 n hn, U24 m hm, b_sls, less8 n m hn hm, less8 _ _ (show 18446744073709551615 - n < 18446744073709551616 by omega) (show 18446744073709551615 - m < 18446744073709551616 by omega), d1, d2, d3, l1, l2, s_seq, s_region, s_op, s_nil, s_grd, grd_t, grd_f, grd_u, s_cond, condX_bool, s_block, blockX_normal, blockX_exit, blockX_ret, blockX_cnd, blockX_none, o_mv, o_bin, o_un, o_pick, pick_bool, o_call, o_extract, ext_tuple, o_eq, o_toInt, int_int, o_field, field_agg, o_fieldA, fieldA_ptr, o_len, len_slice, len_nils, len_str, Nat.add_assoc, o_lenC, o_minmax, o_idxASl, idxASl_slice, new_obj, new_next, set_obj, set_next, noH_obj, noH_next, load_ptr, loadX_cells, apart_one, apart_agg, apart_all, store_ptr, storeX_cells, put_nil, put_cons, lput_whole, cells_agg, cells_int, cells_bool, cells_str, cells_slice, cells_nils, cells_ptr, tup_agg, tup_int, tup_bool, tup_str, tup_slice, tup_nils, tup_ptr, o_box, box_ok, fill_nil, fill_cons, s_draw, stepD_some, d_still, d_nil, ok_01, ok_12, ok_23, ok_02, ok_13, ok_03, okAt_some, rdOk_load, beqO_some, beq_same, all_nil, all_cons, if_true', eff_mv, eff_pick, eff_load, eff_bin, eff_eq, eff_un, eff_toInt, eff_call, eff_extract, eff_fieldA, eff_field, eff_idxASl, eff_len, eff_minmax, eff_build, eff_slc, eff_append, eff_new, eff_box, eff_store, eff_buildS, eff_nilck, eff_idxAArr, eff_idxArr, eff_idxStr, eff_slcStr, eff_slcArr, eff_mkFn, eff_idS, eff_bToS, eff_sToB, eff_mkS, eff_copy, eff_clearS, eff_mkIface, eff_lenC, or_self, imp_self, eq_self, d_op, d_rd, d_gt, d_gf, d_nt, d_nf, d_nu, aop_load, ans_some, cell_some, List.length_cons, List.length_nil, List.take_succ_cons, List.take_zero, List.drop_zero, List.drop_succ_cons, List.set_cons_zero, List.set_cons_succ, List.mem_cons, List.not_mem_nil, Nat.reduceAdd, Nat.reduceMul, Nat.reduceLeDiff, Int.reduceEq, Int.reduceLT, Int.reduceLE, Int.reduceAdd, Int.reduceSub, Int.reduceMul, Nat.zero_add, Nat.add_zero, Option.some.injEq, forall_eq_or_imp, forall_eq, or_false, and_self, false_imp_iff, implies_true, o_new, o_load, o_store, o_build, o_slc, o_append, o_buildS, buildX_some, o_sToB, sToB_str, o_idS', idS_str, o_bToS, o_nilck, nilck_ptr, nilck_fn, e_nilp0, e_nilp1, e_nilp2, e_nils0, e_nils1, o_mkFn, o_mkS, o_copy, o_clearS, clrX_some, o_idxAArr, idxAArr_ptr, o_idxArr, idxArr_agg, o_idxStr, idxStr_str, o_slcStr, slcStr_str, o_slcArr, o_mkIface, Nat.mul_one, stepO_some, stepO_cnd, stepO_none, setd_some, setd_none, set_get, ev_tmp, ev_con, init_get, List.getD_cons_zero, List.getD_cons_succ, List.map_cons, List.map_nil, List.append_nil, List.nil_append, List.cons_append, List.getElem?_cons_zero, List.getElem?_cons_succ, b_eql, b_neq, b_lss, b_leq, b_gtr, b_geq, b_add, b_sub, b_mul, b_quo, b_rem, u_not, u_neg, m_max, m_min, e_int, neg_f, neg_t, eqX_some, fldX_some, e_fld, e_fend, e_bool, e_str, Bool.and_true, beq_self_eq_true, vX_some, vX_none, vX_cnd, hX_some, hX_none, outX_some, outX_none, outX_cnd, seqX_cnd, seqX_normal, seqX_exit, seqX_ret, seqX_none, AX_skip, AX_ret, AX_exit, endX_cnd, endX_normal, endX_ret, endX_none, res_nil, res_tmp, res_cell, cons_some, cell_some, retX_some, ret_one, ret_nil, ret_two, call_fn, Option.map_some, Option.map_none, Option.bind_some, ↓reduceIte, Nat.reduceEqDiff, reduceCtorEq, ↓cnd_true, ↓cnd_false, Bool.not_true, Bool.not_false, decide_true, decide_false, b_seq, b_sne, b_sls, b_sge, b_tf, b_ft, Nat.left_eq_add, Nat.add_eq_left, eq_self, bne_self_eq_false]

theorem law6 (H : AHeap) (args : List AVal) (dats : List Dat) (h : AArgs Try.prog H [22, 22] args dats) : ∃ k H', acall A k 6 args H = some (.bool true, H') := by
  obtain ⟨v0, r, d0, ds, rfl, rfl, h0, h⟩ := args_cons h
  obtain ⟨v1, r, d1, ds, rfl, rfl, h1, h⟩ := args_cons h
  obtain rfl := args_nil h
  obtain ⟨n, rfl, _, hn⟩ := arg_int Try.underlying22 h0
  obtain ⟨m, rfl, _, hm⟩ := arg_int Try.underlying22 h1
  have n1 : (0 : Int) ≤ n := hn.1
  have n2 : n ≤ 18446744073709551615 := hn.2
  have m1 : (0 : Int) ≤ m := hm.1
  have m2 : m ≤ 18446744073709551615 := hm.2
  obtain ⟨H', hr⟩ := run6 n.toNat m.toNat (by omega) (by omega) H
  rw [Int.toNat_of_nonneg n1, Int.toNat_of_nonneg m1] at hr
  obtain ⟨k, hk⟩ := AC_iff.1 hr
  exact ⟨k, H', hk⟩

end Go.Proofs.Ytmicohgachjcgaa.Oc
