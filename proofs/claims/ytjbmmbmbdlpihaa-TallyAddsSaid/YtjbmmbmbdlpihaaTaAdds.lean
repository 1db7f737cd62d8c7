/- The walk of two numbers' sum, difference and what is left: what each function answers, for any two numbers. -/
import Derived.Test.YtjbmmbmbdlpihaaTaFns
import Derived.Test.YtjbmmbmbdlpihaaAmExt
set_option maxRecDepth 100000
set_option linter.unusedSimpArgs false
namespace Go.Proofs.Ytjbmmbmbdlpihaa.Ta
open Go Go.Proofs.Ytjbmmbmbdlpihaa.Am TaFns

/-- The functions alone. -/
def A0 : AProg := ⟨TaFns.fn, fun _ => none⟩
theorem A0_sound (w0 : World) (B : Nat) : Sound Try.prog w0 B A0 := ⟨Try.checked.mixed, TaFns.fn_is, fun f g h => by cases h⟩

/-- What 'lives' answers, reckoned once. -/
theorem lives_is : (acall A0 20 50 [] noH).map (·.1) = some (.bool true) := by kernel_rfl

/-- The functions, with 'lives' taken apart. -/
def A : AProg := ⟨TaFns.fn, fun f => if f = 50 then some (extOf (one [] (.bool true))) else none⟩
theorem A_sound (w0 : World) (B : Nat) : Sound Try.prog w0 B A := by
  refine ⟨Try.checked.mixed, TaFns.fn_is, fun f g h => ?_⟩
  simp only [A] at h
  split at h
  · rename_i hf
    subst hf
    injection h with h
    subst h
    exact ext_sound A0_sound (one_ok rfl rfl lives_is) w0 B
  · cases h

theorem AC_of {f : FuncId} {x : AFn} (h : TaFns.fn f = some x) (hf : f ≠ 50) (args : List AVal) (H : AHeap) : AC A f args H = endX x.results (AX A x.body (ainit args) H) := s_fn (if_neg hf) h args H
theorem AC50 (H : AHeap) : AC A 50 [] H = some (.bool true, H) := AC_ext (A := A) (f := 50) rfl [] H

/-- A number counts. -/
def cnt (a : Int) : Bool := decide (0 ≤ a) && decide (a ≤ 1125899906842624)
def within1 (a : Int) : Int := if cnt a then a else 0
def within2 (a : Int) : Int := if cnt a then 0 else 15
def add1 (a b : Int) : Int := if cnt a && cnt b && cnt (a + b) then a + b else 0
def add2 (a b : Int) : Int := if cnt a && cnt b then (if cnt (a + b) then 0 else 15) else 18
def sub1 (a b : Int) : Int := if cnt a && cnt b && cnt (a - b) then a - b else 0
def sub2 (a b : Int) : Int := if cnt a && cnt b then (if cnt (a - b) then 0 else 15) else 18
def left (a b : Int) : Int := if cnt a && (b == -1 || cnt b) && decide (a ≤ (if b = -1 then 1125899906842624 else b)) then (if b = -1 then 1125899906842624 else b) - a else 0

theorem AC83 (a : Int) (H : AHeap) : AC A 83 [.int .i64 a] H = some (.bool (cnt a), H) := by
  rw [AC_of (x := c83) rfl (by decide)]
  cases h : decide (0 ≤ a) <;> simp only [c83, h, s_seq, s_region, s_op, s_nil, s_grd, grd_t, grd_f, s_cond, condX_bool, s_block, blockX_normal, blockX_exit, blockX_ret, blockX_cnd, blockX_none, o_mv, o_bin, o_un, o_pick, pick_bool, o_call, o_extract, ext_tuple, o_eq, o_toInt, int_int, o_field, field_agg, o_fieldA, fieldA_ptr, o_len, o_lenC, o_minmax, o_idxASl, idxASl_slice, o_new, o_load, o_store, o_build, o_slc, o_append, stepO_some, stepO_cnd, stepO_none, setd_some, setd_none, set_get, ev_tmp, ev_con, init_get, List.getD_cons_zero, List.getD_cons_succ, List.map_cons, List.map_nil, List.append_nil, List.nil_append, List.cons_append, List.getElem?_cons_zero, List.getElem?_cons_succ, b_eql, b_neq, b_lss, b_leq, b_gtr, b_geq, b_add, b_sub, b_mul, b_quo, b_rem, u_not, u_neg, m_max, m_min, e_int, vX_some, vX_none, vX_cnd, hX_some, hX_none, outX_some, outX_none, outX_cnd, seqX_cnd, seqX_normal, seqX_exit, seqX_ret, seqX_none, AX_skip, AX_ret, AX_exit, endX_cnd, endX_normal, endX_ret, endX_none, res_nil, res_tmp, res_cell, cons_some, cell_some, retX_some, ret_one, ret_nil, ret_two, call_fn, Option.map_some, Option.map_none, Option.bind_some, ↓reduceIte, Nat.reduceEqDiff, reduceCtorEq, ↓cnd_true, ↓cnd_false, Bool.not_true, Bool.not_false, decide_true, decide_false] <;> simp [cnt, h]

theorem AC85 (a : Int) (H : AHeap) : AC A 85 [.int .i64 a] H = some (.bool (cnt a), H) := by
  rw [AC_of (x := c85) rfl (by decide)]
  cases h : decide (0 ≤ a) <;> simp only [c85, h, s_seq, s_region, s_op, s_nil, s_grd, grd_t, grd_f, s_cond, condX_bool, s_block, blockX_normal, blockX_exit, blockX_ret, blockX_cnd, blockX_none, o_mv, o_bin, o_un, o_pick, pick_bool, o_call, o_extract, ext_tuple, o_eq, o_toInt, int_int, o_field, field_agg, o_fieldA, fieldA_ptr, o_len, o_lenC, o_minmax, o_idxASl, idxASl_slice, o_new, o_load, o_store, o_build, o_slc, o_append, stepO_some, stepO_cnd, stepO_none, setd_some, setd_none, set_get, ev_tmp, ev_con, init_get, List.getD_cons_zero, List.getD_cons_succ, List.map_cons, List.map_nil, List.append_nil, List.nil_append, List.cons_append, List.getElem?_cons_zero, List.getElem?_cons_succ, b_eql, b_neq, b_lss, b_leq, b_gtr, b_geq, b_add, b_sub, b_mul, b_quo, b_rem, u_not, u_neg, m_max, m_min, e_int, vX_some, vX_none, vX_cnd, hX_some, hX_none, outX_some, outX_none, outX_cnd, seqX_cnd, seqX_normal, seqX_exit, seqX_ret, seqX_none, AX_skip, AX_ret, AX_exit, endX_cnd, endX_normal, endX_ret, endX_none, res_nil, res_tmp, res_cell, cons_some, cell_some, retX_some, ret_one, ret_nil, ret_two, call_fn, Option.map_some, Option.map_none, Option.bind_some, ↓reduceIte, Nat.reduceEqDiff, reduceCtorEq, ↓cnd_true, ↓cnd_false, Bool.not_true, Bool.not_false, decide_true, decide_false] <;> simp [cnt, h]

theorem AC84 (a : Int) (H : AHeap) : AC A 84 [.int .i64 a] H = some (.tuple [.int .i64 (within1 a), .int .i64 (within2 a)], H) := by
  rw [AC_of (x := c84) rfl (by decide)]
  cases h : cnt a <;> simp only [c84, AC83, h, s_seq, s_region, s_op, s_nil, s_grd, grd_t, grd_f, s_cond, condX_bool, s_block, blockX_normal, blockX_exit, blockX_ret, blockX_cnd, blockX_none, o_mv, o_bin, o_un, o_pick, pick_bool, o_call, o_extract, ext_tuple, o_eq, o_toInt, int_int, o_field, field_agg, o_fieldA, fieldA_ptr, o_len, o_lenC, o_minmax, o_idxASl, idxASl_slice, o_new, o_load, o_store, o_build, o_slc, o_append, stepO_some, stepO_cnd, stepO_none, setd_some, setd_none, set_get, ev_tmp, ev_con, init_get, List.getD_cons_zero, List.getD_cons_succ, List.map_cons, List.map_nil, List.append_nil, List.nil_append, List.cons_append, List.getElem?_cons_zero, List.getElem?_cons_succ, b_eql, b_neq, b_lss, b_leq, b_gtr, b_geq, b_add, b_sub, b_mul, b_quo, b_rem, u_not, u_neg, m_max, m_min, e_int, vX_some, vX_none, vX_cnd, hX_some, hX_none, outX_some, outX_none, outX_cnd, seqX_cnd, seqX_normal, seqX_exit, seqX_ret, seqX_none, AX_skip, AX_ret, AX_exit, endX_cnd, endX_normal, endX_ret, endX_none, res_nil, res_tmp, res_cell, cons_some, cell_some, retX_some, ret_one, ret_nil, ret_two, call_fn, Option.map_some, Option.map_none, Option.bind_some, ↓reduceIte, Nat.reduceEqDiff, reduceCtorEq, ↓cnd_true, ↓cnd_false, Bool.not_true, Bool.not_false, decide_true, decide_false] <;> simp [within1, within2, h]

theorem AC46 (a b : Int) (H : AHeap) : AC A 46 [.int .i64 a, .int .i64 b] H = some (.tuple [.int .i64 (add1 a b), .int .i64 (add2 a b)], H) := by
  rw [AC_of (x := c46) rfl (by decide)]
  cases ha : cnt a <;> cases hb : cnt b <;> simp only [c46, AC83, AC84, ha, hb, s_seq, s_region, s_op, s_nil, s_grd, grd_t, grd_f, s_cond, condX_bool, s_block, blockX_normal, blockX_exit, blockX_ret, blockX_cnd, blockX_none, o_mv, o_bin, o_un, o_pick, pick_bool, o_call, o_extract, ext_tuple, o_eq, o_toInt, int_int, o_field, field_agg, o_fieldA, fieldA_ptr, o_len, o_lenC, o_minmax, o_idxASl, idxASl_slice, o_new, o_load, o_store, o_build, o_slc, o_append, stepO_some, stepO_cnd, stepO_none, setd_some, setd_none, set_get, ev_tmp, ev_con, init_get, List.getD_cons_zero, List.getD_cons_succ, List.map_cons, List.map_nil, List.append_nil, List.nil_append, List.cons_append, List.getElem?_cons_zero, List.getElem?_cons_succ, b_eql, b_neq, b_lss, b_leq, b_gtr, b_geq, b_add, b_sub, b_mul, b_quo, b_rem, u_not, u_neg, m_max, m_min, e_int, vX_some, vX_none, vX_cnd, hX_some, hX_none, outX_some, outX_none, outX_cnd, seqX_cnd, seqX_normal, seqX_exit, seqX_ret, seqX_none, AX_skip, AX_ret, AX_exit, endX_cnd, endX_normal, endX_ret, endX_none, res_nil, res_tmp, res_cell, cons_some, cell_some, retX_some, ret_one, ret_nil, ret_two, call_fn, Option.map_some, Option.map_none, Option.bind_some, ↓reduceIte, Nat.reduceEqDiff, reduceCtorEq, ↓cnd_true, ↓cnd_false, Bool.not_true, Bool.not_false, decide_true, decide_false] <;> simp [add1, add2, ha, hb]
  have : IntKind.i64.wrap (a + b) = a + b := by simp [cnt] at ha hb; rw [wrap_i64]; omega
  simp [this, within1, within2]

theorem AC48 (a b : Int) (H : AHeap) : AC A 48 [.int .i64 a, .int .i64 b] H = some (.tuple [.int .i64 (sub1 a b), .int .i64 (sub2 a b)], H) := by
  rw [AC_of (x := c48) rfl (by decide)]
  cases ha : cnt a <;> cases hb : cnt b <;> simp only [c48, AC83, AC84, ha, hb, s_seq, s_region, s_op, s_nil, s_grd, grd_t, grd_f, s_cond, condX_bool, s_block, blockX_normal, blockX_exit, blockX_ret, blockX_cnd, blockX_none, o_mv, o_bin, o_un, o_pick, pick_bool, o_call, o_extract, ext_tuple, o_eq, o_toInt, int_int, o_field, field_agg, o_fieldA, fieldA_ptr, o_len, o_lenC, o_minmax, o_idxASl, idxASl_slice, o_new, o_load, o_store, o_build, o_slc, o_append, stepO_some, stepO_cnd, stepO_none, setd_some, setd_none, set_get, ev_tmp, ev_con, init_get, List.getD_cons_zero, List.getD_cons_succ, List.map_cons, List.map_nil, List.append_nil, List.nil_append, List.cons_append, List.getElem?_cons_zero, List.getElem?_cons_succ, b_eql, b_neq, b_lss, b_leq, b_gtr, b_geq, b_add, b_sub, b_mul, b_quo, b_rem, u_not, u_neg, m_max, m_min, e_int, vX_some, vX_none, vX_cnd, hX_some, hX_none, outX_some, outX_none, outX_cnd, seqX_cnd, seqX_normal, seqX_exit, seqX_ret, seqX_none, AX_skip, AX_ret, AX_exit, endX_cnd, endX_normal, endX_ret, endX_none, res_nil, res_tmp, res_cell, cons_some, cell_some, retX_some, ret_one, ret_nil, ret_two, call_fn, Option.map_some, Option.map_none, Option.bind_some, ↓reduceIte, Nat.reduceEqDiff, reduceCtorEq, ↓cnd_true, ↓cnd_false, Bool.not_true, Bool.not_false, decide_true, decide_false] <;> simp [sub1, sub2, ha, hb]
  have : IntKind.i64.wrap (a - b) = a - b := by simp [cnt] at ha hb; rw [wrap_i64]; omega
  simp [this, within1, within2]

theorem AC47 (a b : Int) (H : AHeap) : AC A 47 [.int .i64 a, .int .i64 b] H = some (.tuple [.int .i64 (add1 a b), .int .i64 (add2 a b)], H) := by
  rw [AC_of (x := c47) rfl (by decide)]
  cases ha : cnt a <;> cases hb : cnt b
  case true.true =>
    have hw : IntKind.i64.wrap (a + b) = a + b := by simp [cnt] at ha hb; rw [wrap_i64]; omega
    have hc : decide (1125899906842624 < a + b) = !cnt (a + b) := by
      simp [cnt] at ha hb
      by_cases h : 1125899906842624 < a + b <;> simp [cnt, h] <;> omega
    cases hs : cnt (a + b) <;> simp only [c47, AC85, ha, hb, hw, hc, hs, s_seq, s_region, s_op, s_nil, s_grd, grd_t, grd_f, s_cond, condX_bool, s_block, blockX_normal, blockX_exit, blockX_ret, blockX_cnd, blockX_none, o_mv, o_bin, o_un, o_pick, pick_bool, o_call, o_extract, ext_tuple, o_eq, o_toInt, int_int, o_field, field_agg, o_fieldA, fieldA_ptr, o_len, o_lenC, o_minmax, o_idxASl, idxASl_slice, o_new, o_load, o_store, o_build, o_slc, o_append, stepO_some, stepO_cnd, stepO_none, setd_some, setd_none, set_get, ev_tmp, ev_con, init_get, List.getD_cons_zero, List.getD_cons_succ, List.map_cons, List.map_nil, List.append_nil, List.nil_append, List.cons_append, List.getElem?_cons_zero, List.getElem?_cons_succ, b_eql, b_neq, b_lss, b_leq, b_gtr, b_geq, b_add, b_sub, b_mul, b_quo, b_rem, u_not, u_neg, m_max, m_min, e_int, vX_some, vX_none, vX_cnd, hX_some, hX_none, outX_some, outX_none, outX_cnd, seqX_cnd, seqX_normal, seqX_exit, seqX_ret, seqX_none, AX_skip, AX_ret, AX_exit, endX_cnd, endX_normal, endX_ret, endX_none, res_nil, res_tmp, res_cell, cons_some, cell_some, retX_some, ret_one, ret_nil, ret_two, call_fn, Option.map_some, Option.map_none, Option.bind_some, ↓reduceIte, Nat.reduceEqDiff, reduceCtorEq, ↓cnd_true, ↓cnd_false, Bool.not_true, Bool.not_false, decide_true, decide_false] <;> simp [add1, add2, ha, hb, hs]
  all_goals simp only [c47, AC85, ha, hb, s_seq, s_region, s_op, s_nil, s_grd, grd_t, grd_f, s_cond, condX_bool, s_block, blockX_normal, blockX_exit, blockX_ret, blockX_cnd, blockX_none, o_mv, o_bin, o_un, o_pick, pick_bool, o_call, o_extract, ext_tuple, o_eq, o_toInt, int_int, o_field, field_agg, o_fieldA, fieldA_ptr, o_len, o_lenC, o_minmax, o_idxASl, idxASl_slice, o_new, o_load, o_store, o_build, o_slc, o_append, stepO_some, stepO_cnd, stepO_none, setd_some, setd_none, set_get, ev_tmp, ev_con, init_get, List.getD_cons_zero, List.getD_cons_succ, List.map_cons, List.map_nil, List.append_nil, List.nil_append, List.cons_append, List.getElem?_cons_zero, List.getElem?_cons_succ, b_eql, b_neq, b_lss, b_leq, b_gtr, b_geq, b_add, b_sub, b_mul, b_quo, b_rem, u_not, u_neg, m_max, m_min, e_int, vX_some, vX_none, vX_cnd, hX_some, hX_none, outX_some, outX_none, outX_cnd, seqX_cnd, seqX_normal, seqX_exit, seqX_ret, seqX_none, AX_skip, AX_ret, AX_exit, endX_cnd, endX_normal, endX_ret, endX_none, res_nil, res_tmp, res_cell, cons_some, cell_some, retX_some, ret_one, ret_nil, ret_two, call_fn, Option.map_some, Option.map_none, Option.bind_some, ↓reduceIte, Nat.reduceEqDiff, reduceCtorEq, ↓cnd_true, ↓cnd_false, Bool.not_true, Bool.not_false, decide_true, decide_false] <;> simp [add1, add2, ha, hb]

theorem AC49 (a b : Int) (H : AHeap) : AC A 49 [.int .i64 a, .int .i64 b] H = some (.tuple [.int .i64 (sub1 a b), .int .i64 (sub2 a b)], H) := by
  rw [AC_of (x := c49) rfl (by decide)]
  cases ha : cnt a <;> cases hb : cnt b
  case true.true =>
    have hw : IntKind.i64.wrap (a - b) = a - b := by simp [cnt] at ha hb; rw [wrap_i64]; omega
    have hc : decide (a < b) = !cnt (a - b) := by
      simp [cnt] at ha hb
      by_cases h : a < b <;> simp [cnt, h] <;> omega
    cases hs : cnt (a - b) <;> simp only [c49, AC85, ha, hb, hw, hc, hs, s_seq, s_region, s_op, s_nil, s_grd, grd_t, grd_f, s_cond, condX_bool, s_block, blockX_normal, blockX_exit, blockX_ret, blockX_cnd, blockX_none, o_mv, o_bin, o_un, o_pick, pick_bool, o_call, o_extract, ext_tuple, o_eq, o_toInt, int_int, o_field, field_agg, o_fieldA, fieldA_ptr, o_len, o_lenC, o_minmax, o_idxASl, idxASl_slice, o_new, o_load, o_store, o_build, o_slc, o_append, stepO_some, stepO_cnd, stepO_none, setd_some, setd_none, set_get, ev_tmp, ev_con, init_get, List.getD_cons_zero, List.getD_cons_succ, List.map_cons, List.map_nil, List.append_nil, List.nil_append, List.cons_append, List.getElem?_cons_zero, List.getElem?_cons_succ, b_eql, b_neq, b_lss, b_leq, b_gtr, b_geq, b_add, b_sub, b_mul, b_quo, b_rem, u_not, u_neg, m_max, m_min, e_int, vX_some, vX_none, vX_cnd, hX_some, hX_none, outX_some, outX_none, outX_cnd, seqX_cnd, seqX_normal, seqX_exit, seqX_ret, seqX_none, AX_skip, AX_ret, AX_exit, endX_cnd, endX_normal, endX_ret, endX_none, res_nil, res_tmp, res_cell, cons_some, cell_some, retX_some, ret_one, ret_nil, ret_two, call_fn, Option.map_some, Option.map_none, Option.bind_some, ↓reduceIte, Nat.reduceEqDiff, reduceCtorEq, ↓cnd_true, ↓cnd_false, Bool.not_true, Bool.not_false, decide_true, decide_false] <;> simp [sub1, sub2, ha, hb, hs]
  all_goals simp only [c49, AC85, ha, hb, s_seq, s_region, s_op, s_nil, s_grd, grd_t, grd_f, s_cond, condX_bool, s_block, blockX_normal, blockX_exit, blockX_ret, blockX_cnd, blockX_none, o_mv, o_bin, o_un, o_pick, pick_bool, o_call, o_extract, ext_tuple, o_eq, o_toInt, int_int, o_field, field_agg, o_fieldA, fieldA_ptr, o_len, o_lenC, o_minmax, o_idxASl, idxASl_slice, o_new, o_load, o_store, o_build, o_slc, o_append, stepO_some, stepO_cnd, stepO_none, setd_some, setd_none, set_get, ev_tmp, ev_con, init_get, List.getD_cons_zero, List.getD_cons_succ, List.map_cons, List.map_nil, List.append_nil, List.nil_append, List.cons_append, List.getElem?_cons_zero, List.getElem?_cons_succ, b_eql, b_neq, b_lss, b_leq, b_gtr, b_geq, b_add, b_sub, b_mul, b_quo, b_rem, u_not, u_neg, m_max, m_min, e_int, vX_some, vX_none, vX_cnd, hX_some, hX_none, outX_some, outX_none, outX_cnd, seqX_cnd, seqX_normal, seqX_exit, seqX_ret, seqX_none, AX_skip, AX_ret, AX_exit, endX_cnd, endX_normal, endX_ret, endX_none, res_nil, res_tmp, res_cell, cons_some, cell_some, retX_some, ret_one, ret_nil, ret_two, call_fn, Option.map_some, Option.map_none, Option.bind_some, ↓reduceIte, Nat.reduceEqDiff, reduceCtorEq, ↓cnd_true, ↓cnd_false, Bool.not_true, Bool.not_false, decide_true, decide_false] <;> simp [sub1, sub2, ha, hb]

theorem AC51 (a b : Int) (H : AHeap) : AC A 51 [.int .i64 a, .int .i64 b] H = some (.int .i64 (left a b), H) := by
  rw [AC_of (x := c51) rfl (by decide)]
  by_cases hb1 : b = -1
  · subst hb1
    have h1 : cnt 1125899906842624 = true := by decide
    cases ha : cnt a <;> simp only [c51, AC83, ha, h1, s_seq, s_region, s_op, s_nil, s_grd, grd_t, grd_f, s_cond, condX_bool, s_block, blockX_normal, blockX_exit, blockX_ret, blockX_cnd, blockX_none, o_mv, o_bin, o_un, o_pick, pick_bool, o_call, o_extract, ext_tuple, o_eq, o_toInt, int_int, o_field, field_agg, o_fieldA, fieldA_ptr, o_len, o_lenC, o_minmax, o_idxASl, idxASl_slice, o_new, o_load, o_store, o_build, o_slc, o_append, stepO_some, stepO_cnd, stepO_none, setd_some, setd_none, set_get, ev_tmp, ev_con, init_get, List.getD_cons_zero, List.getD_cons_succ, List.map_cons, List.map_nil, List.append_nil, List.nil_append, List.cons_append, List.getElem?_cons_zero, List.getElem?_cons_succ, b_eql, b_neq, b_lss, b_leq, b_gtr, b_geq, b_add, b_sub, b_mul, b_quo, b_rem, u_not, u_neg, m_max, m_min, e_int, vX_some, vX_none, vX_cnd, hX_some, hX_none, outX_some, outX_none, outX_cnd, seqX_cnd, seqX_normal, seqX_exit, seqX_ret, seqX_none, AX_skip, AX_ret, AX_exit, endX_cnd, endX_normal, endX_ret, endX_none, res_nil, res_tmp, res_cell, cons_some, cell_some, retX_some, ret_one, ret_nil, ret_two, call_fn, Option.map_some, Option.map_none, Option.bind_some, ↓reduceIte, Nat.reduceEqDiff, reduceCtorEq, ↓cnd_true, ↓cnd_false, Bool.not_true, Bool.not_false, decide_true, decide_false] <;> simp [left, ha]
    simp [cnt] at ha
    rw [wrap_i64]
    repeat' split
    all_goals omega
  · have hd : decide (b = -1) = false := by simp [hb1]
    cases ha : cnt a <;> cases hb : cnt b <;> simp only [c51, AC83, ha, hb, hd, s_seq, s_region, s_op, s_nil, s_grd, grd_t, grd_f, s_cond, condX_bool, s_block, blockX_normal, blockX_exit, blockX_ret, blockX_cnd, blockX_none, o_mv, o_bin, o_un, o_pick, pick_bool, o_call, o_extract, ext_tuple, o_eq, o_toInt, int_int, o_field, field_agg, o_fieldA, fieldA_ptr, o_len, o_lenC, o_minmax, o_idxASl, idxASl_slice, o_new, o_load, o_store, o_build, o_slc, o_append, stepO_some, stepO_cnd, stepO_none, setd_some, setd_none, set_get, ev_tmp, ev_con, init_get, List.getD_cons_zero, List.getD_cons_succ, List.map_cons, List.map_nil, List.append_nil, List.nil_append, List.cons_append, List.getElem?_cons_zero, List.getElem?_cons_succ, b_eql, b_neq, b_lss, b_leq, b_gtr, b_geq, b_add, b_sub, b_mul, b_quo, b_rem, u_not, u_neg, m_max, m_min, e_int, vX_some, vX_none, vX_cnd, hX_some, hX_none, outX_some, outX_none, outX_cnd, seqX_cnd, seqX_normal, seqX_exit, seqX_ret, seqX_none, AX_skip, AX_ret, AX_exit, endX_cnd, endX_normal, endX_ret, endX_none, res_nil, res_tmp, res_cell, cons_some, cell_some, retX_some, ret_one, ret_nil, ret_two, call_fn, Option.map_some, Option.map_none, Option.bind_some, ↓reduceIte, Nat.reduceEqDiff, reduceCtorEq, ↓cnd_true, ↓cnd_false, Bool.not_true, Bool.not_false, decide_true, decide_false] <;> simp [left, ha, hb, hb1]
    simp [cnt] at ha hb
    rw [wrap_i64]
    repeat' split
    all_goals omega

theorem AC52 (a b : Int) (H : AHeap) : AC A 52 [.int .i64 a, .int .i64 b] H = some (.int .i64 (left a b), H) := by
  rw [AC_of (x := c52) rfl (by decide)]
  by_cases hb1 : b = -1
  · subst hb1
    cases ha : cnt a <;> simp only [c52, AC85, ha, s_seq, s_region, s_op, s_nil, s_grd, grd_t, grd_f, s_cond, condX_bool, s_block, blockX_normal, blockX_exit, blockX_ret, blockX_cnd, blockX_none, o_mv, o_bin, o_un, o_pick, pick_bool, o_call, o_extract, ext_tuple, o_eq, o_toInt, int_int, o_field, field_agg, o_fieldA, fieldA_ptr, o_len, o_lenC, o_minmax, o_idxASl, idxASl_slice, o_new, o_load, o_store, o_build, o_slc, o_append, stepO_some, stepO_cnd, stepO_none, setd_some, setd_none, set_get, ev_tmp, ev_con, init_get, List.getD_cons_zero, List.getD_cons_succ, List.map_cons, List.map_nil, List.append_nil, List.nil_append, List.cons_append, List.getElem?_cons_zero, List.getElem?_cons_succ, b_eql, b_neq, b_lss, b_leq, b_gtr, b_geq, b_add, b_sub, b_mul, b_quo, b_rem, u_not, u_neg, m_max, m_min, e_int, vX_some, vX_none, vX_cnd, hX_some, hX_none, outX_some, outX_none, outX_cnd, seqX_cnd, seqX_normal, seqX_exit, seqX_ret, seqX_none, AX_skip, AX_ret, AX_exit, endX_cnd, endX_normal, endX_ret, endX_none, res_nil, res_tmp, res_cell, cons_some, cell_some, retX_some, ret_one, ret_nil, ret_two, call_fn, Option.map_some, Option.map_none, Option.bind_some, ↓reduceIte, Nat.reduceEqDiff, reduceCtorEq, ↓cnd_true, ↓cnd_false, Bool.not_true, Bool.not_false, decide_true, decide_false] <;> simp [left, ha]
    simp [cnt] at ha
    rw [wrap_i64]
    repeat' split
    all_goals omega
  · have hd : decide (b = -1) = false := by simp [hb1]
    cases ha : cnt a <;> cases hb : cnt b <;> cases hc : decide (b < a) <;> simp only [c52, AC85, ha, hb, hd, hc, s_seq, s_region, s_op, s_nil, s_grd, grd_t, grd_f, s_cond, condX_bool, s_block, blockX_normal, blockX_exit, blockX_ret, blockX_cnd, blockX_none, o_mv, o_bin, o_un, o_pick, pick_bool, o_call, o_extract, ext_tuple, o_eq, o_toInt, int_int, o_field, field_agg, o_fieldA, fieldA_ptr, o_len, o_lenC, o_minmax, o_idxASl, idxASl_slice, o_new, o_load, o_store, o_build, o_slc, o_append, stepO_some, stepO_cnd, stepO_none, setd_some, setd_none, set_get, ev_tmp, ev_con, init_get, List.getD_cons_zero, List.getD_cons_succ, List.map_cons, List.map_nil, List.append_nil, List.nil_append, List.cons_append, List.getElem?_cons_zero, List.getElem?_cons_succ, b_eql, b_neq, b_lss, b_leq, b_gtr, b_geq, b_add, b_sub, b_mul, b_quo, b_rem, u_not, u_neg, m_max, m_min, e_int, vX_some, vX_none, vX_cnd, hX_some, hX_none, outX_some, outX_none, outX_cnd, seqX_cnd, seqX_normal, seqX_exit, seqX_ret, seqX_none, AX_skip, AX_ret, AX_exit, endX_cnd, endX_normal, endX_ret, endX_none, res_nil, res_tmp, res_cell, cons_some, cell_some, retX_some, ret_one, ret_nil, ret_two, call_fn, Option.map_some, Option.map_none, Option.bind_some, ↓reduceIte, Nat.reduceEqDiff, reduceCtorEq, ↓cnd_true, ↓cnd_false, Bool.not_true, Bool.not_false, decide_true, decide_false] <;> simp [left, ha, hb, hb1]
    all_goals
      simp [cnt] at ha hb hc
      try rw [wrap_i64]
      repeat' split
      all_goals omega

theorem AC10 (a b : Int) (H : AHeap) : AC A 10 [.int .i64 a, .int .i64 b] H = some (.bool true, H) := by
  rw [AC_of (x := c10) rfl (by decide)]
  simp only [c10, AC46, AC47, AC48, AC49, AC50, AC51, AC52, s_seq, s_region, s_op, s_nil, s_grd, grd_t, grd_f, s_cond, condX_bool, s_block, blockX_normal, blockX_exit, blockX_ret, blockX_cnd, blockX_none, o_mv, o_bin, o_un, o_pick, pick_bool, o_call, o_extract, ext_tuple, o_eq, o_toInt, int_int, o_field, field_agg, o_fieldA, fieldA_ptr, o_len, o_lenC, o_minmax, o_idxASl, idxASl_slice, o_new, o_load, o_store, o_build, o_slc, o_append, stepO_some, stepO_cnd, stepO_none, setd_some, setd_none, set_get, ev_tmp, ev_con, init_get, List.getD_cons_zero, List.getD_cons_succ, List.map_cons, List.map_nil, List.append_nil, List.nil_append, List.cons_append, List.getElem?_cons_zero, List.getElem?_cons_succ, b_eql, b_neq, b_lss, b_leq, b_gtr, b_geq, b_add, b_sub, b_mul, b_quo, b_rem, u_not, u_neg, m_max, m_min, e_int, vX_some, vX_none, vX_cnd, hX_some, hX_none, outX_some, outX_none, outX_cnd, seqX_cnd, seqX_normal, seqX_exit, seqX_ret, seqX_none, AX_skip, AX_ret, AX_exit, endX_cnd, endX_normal, endX_ret, endX_none, res_nil, res_tmp, res_cell, cons_some, cell_some, retX_some, ret_one, ret_nil, ret_two, call_fn, Option.map_some, Option.map_none, Option.bind_some, ↓reduceIte, Nat.reduceEqDiff, reduceCtorEq, ↓cnd_true, ↓cnd_false, Bool.not_true, Bool.not_false, decide_true, decide_false]

theorem run10 (H : AHeap) (args : List AVal) (dats : List Dat) (h : AArgs Try.prog H [2, 2] args dats) : ∃ k H', acall A k 10 args H = some (.bool true, H') := by
  obtain ⟨n0, n1, rfl⟩ := args_ii Try.underlying2 Try.underlying2 h
  obtain ⟨k, hk⟩ := AC_iff.1 (AC10 n0 n1 H)
  exact ⟨k, H, hk⟩

end Go.Proofs.Ytjbmmbmbdlpihaa.Ta
