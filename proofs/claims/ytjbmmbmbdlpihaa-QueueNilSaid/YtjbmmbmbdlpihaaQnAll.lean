/- The walk of a queue that is nil: what each of its methods answers. -/
import Derived.Test.YtjbmmbmbdlpihaaQnFns
import Derived.Test.YtjbmmbmbdlpihaaAmExt
set_option maxRecDepth 100000
set_option linter.unusedSimpArgs false
set_option linter.unusedVariables false
namespace Go.Proofs.Ytjbmmbmbdlpihaa.Qn
open Go Go.Proofs.Ytjbmmbmbdlpihaa.Am QnFns

theorem len_nils : alenT false .nils = some 0 := hid rfl
theorem cast0 : ((0 : Nat) : Int) = 0 := hid rfl

def A0 : AProg := ⟨QnFns.fn, fun _ => none⟩
theorem A0_sound (w0 : World) (B : Nat) : Sound Try.prog w0 B A0 := ⟨Try.checked.mixed, QnFns.fn_is, fun f g h => by cases h⟩
theorem run30_is : (acall A0 60 30 [] noH).map (·.1) = some (.bool true) := by kernel_rfl
theorem run30 : Ans (AC A0 30 [] noH) (.bool true) := by
  obtain ⟨⟨v, H⟩, h1, h2⟩ := Option.map_eq_some_iff.1 run30_is
  simp only at h2
  subst h2
  exact ⟨H, AC_iff.2 ⟨_, h1⟩⟩
def g30 : List AVal → Option AVal
  | [] => some (.bool true)
  | _ => none
theorem ok30 : ∀ args v, g30 args = some v → plains args = true ∧ plain v = true ∧ ∃ H', AC A0 30 args noH = some (v, H') := by
  intro args v h
  unfold g30 at h
  split at h
  · injection h with h; subst h; exact ⟨rfl, rfl, run30 ⟩
  · cases h
theorem run38_is : (acall A0 20 38 [.nilp] noH).map (·.1) = some (.int .i64 0) := by kernel_rfl
theorem run38 : Ans (AC A0 38 [.nilp] noH) (.int .i64 0) := by
  obtain ⟨⟨v, H⟩, h1, h2⟩ := Option.map_eq_some_iff.1 run38_is
  simp only at h2
  subst h2
  exact ⟨H, AC_iff.2 ⟨_, h1⟩⟩
def g38 : List AVal → Option AVal
  | [.nilp] => some (.int .i64 0)
  | _ => none
theorem ok38 : ∀ args v, g38 args = some v → plains args = true ∧ plain v = true ∧ ∃ H', AC A0 38 args noH = some (v, H') := by
  intro args v h
  unfold g38 at h
  split at h
  · injection h with h; subst h; exact ⟨rfl, rfl, run38 ⟩
  · cases h
theorem run39_is : (acall A0 20 39 [.nilp] noH).map (·.1) = some (.int .i64 0) := by kernel_rfl
theorem run39 : Ans (AC A0 39 [.nilp] noH) (.int .i64 0) := by
  obtain ⟨⟨v, H⟩, h1, h2⟩ := Option.map_eq_some_iff.1 run39_is
  simp only at h2
  subst h2
  exact ⟨H, AC_iff.2 ⟨_, h1⟩⟩
def g39 : List AVal → Option AVal
  | [.nilp] => some (.int .i64 0)
  | _ => none
theorem ok39 : ∀ args v, g39 args = some v → plains args = true ∧ plain v = true ∧ ∃ H', AC A0 39 args noH = some (v, H') := by
  intro args v h
  unfold g39 at h
  split at h
  · injection h with h; subst h; exact ⟨rfl, rfl, run39 ⟩
  · cases h
theorem run36_is : (acall A0 20 36 [.nilp] noH).map (·.1) = some (.tuple [.int .i64 0, .bool false]) := by kernel_rfl
theorem run36 : Ans (AC A0 36 [.nilp] noH) (.tuple [.int .i64 0, .bool false]) := by
  obtain ⟨⟨v, H⟩, h1, h2⟩ := Option.map_eq_some_iff.1 run36_is
  simp only at h2
  subst h2
  exact ⟨H, AC_iff.2 ⟨_, h1⟩⟩
def g36 : List AVal → Option AVal
  | [.nilp] => some (.tuple [.int .i64 0, .bool false])
  | _ => none
theorem ok36 : ∀ args v, g36 args = some v → plains args = true ∧ plain v = true ∧ ∃ H', AC A0 36 args noH = some (v, H') := by
  intro args v h
  unfold g36 at h
  split at h
  · injection h with h; subst h; exact ⟨rfl, rfl, run36 ⟩
  · cases h
theorem run35_is : (acall A0 20 35 [.nilp] noH).map (·.1) = some (.tuple [.int .i64 0, .bool false]) := by kernel_rfl
theorem run35 : Ans (AC A0 35 [.nilp] noH) (.tuple [.int .i64 0, .bool false]) := by
  obtain ⟨⟨v, H⟩, h1, h2⟩ := Option.map_eq_some_iff.1 run35_is
  simp only at h2
  subst h2
  exact ⟨H, AC_iff.2 ⟨_, h1⟩⟩
def g35 : List AVal → Option AVal
  | [.nilp] => some (.tuple [.int .i64 0, .bool false])
  | _ => none
theorem ok35 : ∀ args v, g35 args = some v → plains args = true ∧ plain v = true ∧ ∃ H', AC A0 35 args noH = some (v, H') := by
  intro args v h
  unfold g35 at h
  split at h
  · injection h with h; subst h; exact ⟨rfl, rfl, run35 ⟩
  · cases h
theorem run37_is : (acall A0 20 37 [.nilp] noH).map (·.1) = some (.int .i64 0) := by kernel_rfl
theorem run37 : Ans (AC A0 37 [.nilp] noH) (.int .i64 0) := by
  obtain ⟨⟨v, H⟩, h1, h2⟩ := Option.map_eq_some_iff.1 run37_is
  simp only at h2
  subst h2
  exact ⟨H, AC_iff.2 ⟨_, h1⟩⟩
def g37 : List AVal → Option AVal
  | [.nilp] => some (.int .i64 0)
  | _ => none
theorem ok37 : ∀ args v, g37 args = some v → plains args = true ∧ plain v = true ∧ ∃ H', AC A0 37 args noH = some (v, H') := by
  intro args v h
  unfold g37 at h
  split at h
  · injection h with h; subst h; exact ⟨rfl, rfl, run37 ⟩
  · cases h
theorem run41_is : (acall A0 20 41 [.nilp] noH).map (·.1) = some (.nils) := by kernel_rfl
theorem run41 : Ans (AC A0 41 [.nilp] noH) (.nils) := by
  obtain ⟨⟨v, H⟩, h1, h2⟩ := Option.map_eq_some_iff.1 run41_is
  simp only at h2
  subst h2
  exact ⟨H, AC_iff.2 ⟨_, h1⟩⟩
def g41 : List AVal → Option AVal
  | [.nilp] => some (.nils)
  | _ => none
theorem ok41 : ∀ args v, g41 args = some v → plains args = true ∧ plain v = true ∧ ∃ H', AC A0 41 args noH = some (v, H') := by
  intro args v h
  unfold g41 at h
  split at h
  · injection h with h; subst h; exact ⟨rfl, rfl, run41 ⟩
  · cases h
def ext1 (f : FuncId) : Option (List AVal → AHeap → Option (AVal × AHeap)) :=
  if f = 30 then some (extOf g30) else if f = 38 then some (extOf g38) else if f = 39 then some (extOf g39) else if f = 36 then some (extOf g36) else if f = 35 then some (extOf g35) else if f = 37 then some (extOf g37) else if f = 41 then some (extOf g41) else A0.ext f
def A1 : AProg := ⟨QnFns.fn, ext1⟩
theorem A1_sound (w0 : World) (B : Nat) : Sound Try.prog w0 B A1 := by
  refine ⟨Try.checked.mixed, QnFns.fn_is, fun f g h => ?_⟩
  change ext1 f = some g at h
  unfold ext1 at h
  split at h
  · rename_i hf; subst hf; injection h with h; subst h; exact ext_sound A0_sound ok30 w0 B
  split at h
  · rename_i hf; subst hf; injection h with h; subst h; exact ext_sound A0_sound ok38 w0 B
  split at h
  · rename_i hf; subst hf; injection h with h; subst h; exact ext_sound A0_sound ok39 w0 B
  split at h
  · rename_i hf; subst hf; injection h with h; subst h; exact ext_sound A0_sound ok36 w0 B
  split at h
  · rename_i hf; subst hf; injection h with h; subst h; exact ext_sound A0_sound ok35 w0 B
  split at h
  · rename_i hf; subst hf; injection h with h; subst h; exact ext_sound A0_sound ok37 w0 B
  split at h
  · rename_i hf; subst hf; injection h with h; subst h; exact ext_sound A0_sound ok41 w0 B
  exact (A0_sound w0 B).ext f g h
theorem U1_30 (H : AHeap) : AC A1 30 [] H = some (.bool true, H) := (AC_ext (A := A1) (f := 30) (g := extOf g30) rfl [] H).trans (hid rfl)
theorem U1_38 (H : AHeap) : AC A1 38 [.nilp] H = some (.int .i64 0, H) := (AC_ext (A := A1) (f := 38) (g := extOf g38) rfl [.nilp] H).trans (hid rfl)
theorem U1_39 (H : AHeap) : AC A1 39 [.nilp] H = some (.int .i64 0, H) := (AC_ext (A := A1) (f := 39) (g := extOf g39) rfl [.nilp] H).trans (hid rfl)
theorem U1_36 (H : AHeap) : AC A1 36 [.nilp] H = some (.tuple [.int .i64 0, .bool false], H) := (AC_ext (A := A1) (f := 36) (g := extOf g36) rfl [.nilp] H).trans (hid rfl)
theorem U1_35 (H : AHeap) : AC A1 35 [.nilp] H = some (.tuple [.int .i64 0, .bool false], H) := (AC_ext (A := A1) (f := 35) (g := extOf g35) rfl [.nilp] H).trans (hid rfl)
theorem U1_37 (H : AHeap) : AC A1 37 [.nilp] H = some (.int .i64 0, H) := (AC_ext (A := A1) (f := 37) (g := extOf g37) rfl [.nilp] H).trans (hid rfl)
theorem U1_41 (H : AHeap) : AC A1 41 [.nilp] H = some (.nils, H) := (AC_ext (A := A1) (f := 41) (g := extOf g41) rfl [.nilp] H).trans (hid rfl)

theorem run33 (x : Int) : Ans (AC A1 33 [.nilp, .int .i64 x] noH) (.bool false) := by
  rw [s_fn (A := A1) (f := 33) (x := QnFns.c33) rfl rfl]
  simp only [c33, U1_30, U1_38, U1_39, U1_36, U1_35, U1_37, U1_41, s_seq, s_region, s_op, s_nil, s_grd, grd_t, grd_f, grd_u, s_cond, condX_bool, s_block, blockX_normal, blockX_exit, blockX_ret, blockX_cnd, blockX_none, o_mv, o_bin, o_un, o_pick, pick_bool, o_call, o_extract, ext_tuple, o_eq, o_toInt, int_int, o_field, field_agg, o_fieldA, fieldA_ptr, o_len, o_lenC, o_minmax, o_idxASl, idxASl_slice, new_obj, new_next, set_obj, set_next, noH_obj, noH_next, load_ptr, loadX_cells, apart_one, apart_agg, apart_all, store_ptr, storeX_cells, put_nil, put_cons, cells_agg, cells_int, cells_bool, cells_str, cells_slice, cells_nils, cells_ptr, tup_agg, tup_int, tup_bool, tup_str, tup_slice, tup_nils, tup_ptr, o_box, box_ok, fill_nil, fill_cons, s_draw, stepD_some, d_still, eff_mv, eff_pick, eff_load, eff_bin, eff_eq, eff_un, eff_toInt, eff_call, eff_extract, eff_fieldA, eff_field, eff_idxASl, eff_len, eff_minmax, eff_build, eff_slc, eff_append, eff_new, eff_box, eff_store, eff_buildS, or_self, imp_self, eq_self, d_op, d_rd, d_gt, d_gf, d_nt, d_nf, d_nu, aop_load, ans_some, cell_some, List.length_cons, List.length_nil, List.take_succ_cons, List.take_zero, List.drop_zero, List.drop_succ_cons, List.set_cons_zero, List.set_cons_succ, List.mem_cons, List.not_mem_nil, Nat.reduceAdd, Nat.reduceMul, Nat.reduceLeDiff, Int.reduceEq, Int.reduceLT, Int.reduceLE, Int.reduceAdd, Int.reduceSub, Int.reduceMul, Nat.zero_add, Nat.add_zero, Option.some.injEq, forall_eq_or_imp, forall_eq, or_false, and_self, false_imp_iff, implies_true, o_new, o_load, o_store, o_build, o_slc, o_append, stepO_some, stepO_cnd, stepO_none, setd_some, setd_none, set_get, ev_tmp, ev_con, init_get, List.getD_cons_zero, List.getD_cons_succ, List.map_cons, List.map_nil, List.append_nil, List.nil_append, List.cons_append, List.getElem?_cons_zero, List.getElem?_cons_succ, b_eql, b_neq, b_lss, b_leq, b_gtr, b_geq, b_add, b_sub, b_mul, b_quo, b_rem, u_not, u_neg, m_max, m_min, e_int, neg_f, neg_t, eqX_some, fldX_some, e_fld, e_fend, e_bool, e_str, Bool.and_true, beq_self_eq_true, vX_some, vX_none, vX_cnd, hX_some, hX_none, outX_some, outX_none, outX_cnd, seqX_cnd, seqX_normal, seqX_exit, seqX_ret, seqX_none, AX_skip, AX_ret, AX_exit, endX_cnd, endX_normal, endX_ret, endX_none, res_nil, res_tmp, res_cell, cons_some, cell_some, retX_some, ret_one, ret_nil, ret_two, call_fn, Option.map_some, Option.map_none, Option.bind_some, ↓reduceIte, Nat.reduceEqDiff, reduceCtorEq, ↓cnd_true, ↓cnd_false, Bool.not_true, Bool.not_false, decide_true, decide_false]
def g33 : List AVal → Option AVal
  | [.nilp, .int .i64 x] => some (.bool false)
  | _ => none
theorem ok33 : ∀ args v, g33 args = some v → plains args = true ∧ plain v = true ∧ ∃ H', AC A1 33 args noH = some (v, H') := by
  intro args v h
  unfold g33 at h
  split at h
  · rename_i x; injection h with h; subst h; exact ⟨rfl, rfl, run33 x⟩
  · cases h
def ext2 (f : FuncId) : Option (List AVal → AHeap → Option (AVal × AHeap)) :=
  if f = 33 then some (extOf g33) else A1.ext f
def A2 : AProg := ⟨QnFns.fn, ext2⟩
theorem A2_sound (w0 : World) (B : Nat) : Sound Try.prog w0 B A2 := by
  refine ⟨Try.checked.mixed, QnFns.fn_is, fun f g h => ?_⟩
  change ext2 f = some g at h
  unfold ext2 at h
  split at h
  · rename_i hf; subst hf; injection h with h; subst h; exact ext_sound A1_sound ok33 w0 B
  exact (A1_sound w0 B).ext f g h
theorem U2_30 (H : AHeap) : AC A2 30 [] H = some (.bool true, H) := (AC_ext (A := A2) (f := 30) (g := extOf g30) rfl [] H).trans (hid rfl)
theorem U2_38 (H : AHeap) : AC A2 38 [.nilp] H = some (.int .i64 0, H) := (AC_ext (A := A2) (f := 38) (g := extOf g38) rfl [.nilp] H).trans (hid rfl)
theorem U2_39 (H : AHeap) : AC A2 39 [.nilp] H = some (.int .i64 0, H) := (AC_ext (A := A2) (f := 39) (g := extOf g39) rfl [.nilp] H).trans (hid rfl)
theorem U2_36 (H : AHeap) : AC A2 36 [.nilp] H = some (.tuple [.int .i64 0, .bool false], H) := (AC_ext (A := A2) (f := 36) (g := extOf g36) rfl [.nilp] H).trans (hid rfl)
theorem U2_35 (H : AHeap) : AC A2 35 [.nilp] H = some (.tuple [.int .i64 0, .bool false], H) := (AC_ext (A := A2) (f := 35) (g := extOf g35) rfl [.nilp] H).trans (hid rfl)
theorem U2_37 (H : AHeap) : AC A2 37 [.nilp] H = some (.int .i64 0, H) := (AC_ext (A := A2) (f := 37) (g := extOf g37) rfl [.nilp] H).trans (hid rfl)
theorem U2_41 (H : AHeap) : AC A2 41 [.nilp] H = some (.nils, H) := (AC_ext (A := A2) (f := 41) (g := extOf g41) rfl [.nilp] H).trans (hid rfl)
theorem U2_33 (x : Int) (H : AHeap) : AC A2 33 [.nilp, .int .i64 x] H = some (.bool false, H) := (AC_ext (A := A2) (f := 33) (g := extOf g33) rfl [.nilp, .int .i64 x] H).trans (hid rfl)

theorem run7 (x : Int) : Ans (AC A2 7 [.int .i64 x] noH) (.bool true) := by
  rw [s_fn (A := A2) (f := 7) (x := QnFns.c7) rfl rfl]
  simp only [c7, U2_30, U2_38, U2_39, U2_36, U2_35, U2_37, U2_41, U2_33, len_nils, cast0, s_seq, s_region, s_op, s_nil, s_grd, grd_t, grd_f, grd_u, s_cond, condX_bool, s_block, blockX_normal, blockX_exit, blockX_ret, blockX_cnd, blockX_none, o_mv, o_bin, o_un, o_pick, pick_bool, o_call, o_extract, ext_tuple, o_eq, o_toInt, int_int, o_field, field_agg, o_fieldA, fieldA_ptr, o_len, o_lenC, o_minmax, o_idxASl, idxASl_slice, new_obj, new_next, set_obj, set_next, noH_obj, noH_next, load_ptr, loadX_cells, apart_one, apart_agg, apart_all, store_ptr, storeX_cells, put_nil, put_cons, cells_agg, cells_int, cells_bool, cells_str, cells_slice, cells_nils, cells_ptr, tup_agg, tup_int, tup_bool, tup_str, tup_slice, tup_nils, tup_ptr, o_box, box_ok, fill_nil, fill_cons, s_draw, stepD_some, d_still, eff_mv, eff_pick, eff_load, eff_bin, eff_eq, eff_un, eff_toInt, eff_call, eff_extract, eff_fieldA, eff_field, eff_idxASl, eff_len, eff_minmax, eff_build, eff_slc, eff_append, eff_new, eff_box, eff_store, eff_buildS, or_self, imp_self, eq_self, d_op, d_rd, d_gt, d_gf, d_nt, d_nf, d_nu, aop_load, ans_some, cell_some, List.length_cons, List.length_nil, List.take_succ_cons, List.take_zero, List.drop_zero, List.drop_succ_cons, List.set_cons_zero, List.set_cons_succ, List.mem_cons, List.not_mem_nil, Nat.reduceAdd, Nat.reduceMul, Nat.reduceLeDiff, Int.reduceEq, Int.reduceLT, Int.reduceLE, Int.reduceAdd, Int.reduceSub, Int.reduceMul, Nat.zero_add, Nat.add_zero, Option.some.injEq, forall_eq_or_imp, forall_eq, or_false, and_self, false_imp_iff, implies_true, o_new, o_load, o_store, o_build, o_slc, o_append, stepO_some, stepO_cnd, stepO_none, setd_some, setd_none, set_get, ev_tmp, ev_con, init_get, List.getD_cons_zero, List.getD_cons_succ, List.map_cons, List.map_nil, List.append_nil, List.nil_append, List.cons_append, List.getElem?_cons_zero, List.getElem?_cons_succ, b_eql, b_neq, b_lss, b_leq, b_gtr, b_geq, b_add, b_sub, b_mul, b_quo, b_rem, u_not, u_neg, m_max, m_min, e_int, neg_f, neg_t, eqX_some, fldX_some, e_fld, e_fend, e_bool, e_str, Bool.and_true, beq_self_eq_true, vX_some, vX_none, vX_cnd, hX_some, hX_none, outX_some, outX_none, outX_cnd, seqX_cnd, seqX_normal, seqX_exit, seqX_ret, seqX_none, AX_skip, AX_ret, AX_exit, endX_cnd, endX_normal, endX_ret, endX_none, res_nil, res_tmp, res_cell, cons_some, cell_some, retX_some, ret_one, ret_nil, ret_two, call_fn, Option.map_some, Option.map_none, Option.bind_some, ↓reduceIte, Nat.reduceEqDiff, reduceCtorEq, ↓cnd_true, ↓cnd_false, Bool.not_true, Bool.not_false, decide_true, decide_false]
def g7 : List AVal → Option AVal
  | [.int .i64 x] => some (.bool true)
  | _ => none
theorem ok7 : ∀ args v, g7 args = some v → plains args = true ∧ plain v = true ∧ ∃ H', AC A2 7 args noH = some (v, H') := by
  intro args v h
  unfold g7 at h
  split at h
  · rename_i x; injection h with h; subst h; exact ⟨rfl, rfl, run7 x⟩
  · cases h
def ext3 (f : FuncId) : Option (List AVal → AHeap → Option (AVal × AHeap)) :=
  if f = 7 then some (extOf g7) else A2.ext f
def A3 : AProg := ⟨QnFns.fn, ext3⟩
theorem A3_sound (w0 : World) (B : Nat) : Sound Try.prog w0 B A3 := by
  refine ⟨Try.checked.mixed, QnFns.fn_is, fun f g h => ?_⟩
  change ext3 f = some g at h
  unfold ext3 at h
  split at h
  · rename_i hf; subst hf; injection h with h; subst h; exact ext_sound A2_sound ok7 w0 B
  exact (A2_sound w0 B).ext f g h
theorem U3_30 (H : AHeap) : AC A3 30 [] H = some (.bool true, H) := (AC_ext (A := A3) (f := 30) (g := extOf g30) rfl [] H).trans (hid rfl)
theorem U3_38 (H : AHeap) : AC A3 38 [.nilp] H = some (.int .i64 0, H) := (AC_ext (A := A3) (f := 38) (g := extOf g38) rfl [.nilp] H).trans (hid rfl)
theorem U3_39 (H : AHeap) : AC A3 39 [.nilp] H = some (.int .i64 0, H) := (AC_ext (A := A3) (f := 39) (g := extOf g39) rfl [.nilp] H).trans (hid rfl)
theorem U3_36 (H : AHeap) : AC A3 36 [.nilp] H = some (.tuple [.int .i64 0, .bool false], H) := (AC_ext (A := A3) (f := 36) (g := extOf g36) rfl [.nilp] H).trans (hid rfl)
theorem U3_35 (H : AHeap) : AC A3 35 [.nilp] H = some (.tuple [.int .i64 0, .bool false], H) := (AC_ext (A := A3) (f := 35) (g := extOf g35) rfl [.nilp] H).trans (hid rfl)
theorem U3_37 (H : AHeap) : AC A3 37 [.nilp] H = some (.int .i64 0, H) := (AC_ext (A := A3) (f := 37) (g := extOf g37) rfl [.nilp] H).trans (hid rfl)
theorem U3_41 (H : AHeap) : AC A3 41 [.nilp] H = some (.nils, H) := (AC_ext (A := A3) (f := 41) (g := extOf g41) rfl [.nilp] H).trans (hid rfl)
theorem U3_33 (x : Int) (H : AHeap) : AC A3 33 [.nilp, .int .i64 x] H = some (.bool false, H) := (AC_ext (A := A3) (f := 33) (g := extOf g33) rfl [.nilp, .int .i64 x] H).trans (hid rfl)
theorem U3_7 (x : Int) (H : AHeap) : AC A3 7 [.int .i64 x] H = some (.bool true, H) := (AC_ext (A := A3) (f := 7) (g := extOf g7) rfl [.int .i64 x] H).trans (hid rfl)

def A : AProg := A3
theorem A_sound (w0 : World) (B : Nat) : Sound Try.prog w0 B A := A3_sound w0 B
theorem law7 (H : AHeap) (args : List AVal) (dats : List Dat) (h : AArgs Try.prog H [3] args dats) : ∃ k H', acall A k 7 args H = some (.bool true, H') := by
  obtain ⟨v0, r, d0, ds, rfl, rfl, h0, h⟩ := args_cons h
  obtain rfl := args_nil h
  obtain ⟨n, rfl, _⟩ := arg_int Try.underlying3 h0
  obtain ⟨k, hk⟩ := AC_iff.1 (U3_7 n H)
  exact ⟨k, H, hk⟩

end Go.Proofs.Ytjbmmbmbdlpihaa.Qn
