/- The law of the first come: what was put goes in the order in which it came. -/
import Derived.Test.YtjbmmbmbdlpihaaQuAll
set_option maxRecDepth 100000
set_option linter.unusedSimpArgs false
set_option linter.unusedVariables false
set_option maxHeartbeats 2000000
namespace Go.Proofs.Ytjbmmbmbdlpihaa.Qu
open Go Go.Proofs.Ytjbmmbmbdlpihaa.Am QuFns

theorem Q.same {H H' : AHeap} {own : Bool} {p g rm f m : Nat} {R : List Int} (h : Q H own p g rm f m R) (hp : H'.obj p = H.obj p) (hg : H'.obj g = H.obj g) (hn : H.next ≤ H'.next) : Q H' own p g rm f m R :=
  ⟨hp.trans h.op, hg.trans h.og, h.lr, h.r1, h.hf, h.hm, h.pg, Nat.lt_of_lt_of_le h.pn hn, Nat.lt_of_lt_of_le h.gn hn⟩

/-- What stands in the law's slots, and in memory: a: what was put; b: what was taken. -/
structure P6 (xs : List Int) (ys : List Int) (t u : AVal) (p g rm : Nat) (j f m : Nat) (R a b : List Int) (s9 s10 : AVal) (env : Env) (H : AHeap) : Prop where
  h2 : env 2 = u
  h7 : env 7 = .ptr p 0
  h9 : env 9 = s9
  h10 : env 10 = s10
  h41 : env 41 = t
  h42 : env 42 = .int .i64 (xs.length : Int)
  h43 : env 43 = .int .i64 (j : Int)
  hj : j ≤ xs.length ∧ xs.length ≤ 200
  q : Q H true p g rm f m R
  o9 : Ow H 1 s9 (a.map mkI)
  o10 : Ow H 1 s10 (b.map mkI)
  ht : Sl H 1 t (xs.map mkI)
  hu : Sl H 1 u (ys.map (AVal.int .u8))
  yb : ∀ y, y ∈ ys → 0 ≤ y ∧ y ≤ 255
  tid : ∀ i, i ∈ t.ids → i < H.next
  uid : ∀ i, i ∈ u.ids → i < H.next
  d9 : p ∉ s9.ids ∧ g ∉ s9.ids
  d10 : p ∉ s10.ids ∧ g ∉ s10.ids
  dt : p ∉ t.ids ∧ g ∉ t.ids
  du : p ∉ u.ids ∧ g ∉ u.ids
  a9 : Apart s9 s10
  a10 : Apart s10 s9
  t9 : Apart t s9
  t10 : Apart t s10
  u9 : Apart u s9
  u10 : Apart u s10
  la : a.length ≤ 200
  lb : b.length ≤ a.length
  ab : a = b ++ items R rm f m

theorem Apart.new {s : AVal} {n id off k c : Nat} {g : Option Nat} (h : ∀ i, i ∈ s.ids → i < n) (hn : n ≤ id) : Apart s (.slice id off k c g) := fun i hi => by
  have := h i hi
  simp only [AVal.ids, List.mem_singleton]
  omega
theorem Apart.new' {s : AVal} {n id off k c : Nat} {g : Option Nat} (h : ∀ i, i ∈ s.ids → i < n) (hn : n ≤ id) : Apart (.slice id off k c g) s := fun i hi => by
  simp only [AVal.ids, List.mem_singleton] at hi
  subst hi
  intro hx
  have := h _ hx
  omega

def b61 : ACode := (.seq (.region [⟨(some 73), (.bin .lss (.tmp 72) (.tmp 71)), none, none⟩]) (.seq (.cond (.tmp 73) .skip (.exit 2)) (.seq (.block 3 (.seq (.region [⟨(some 75), (.mv (.tmp 7)), none, none⟩, ⟨(some 76), (.call (.con (.func 35 [] [])) [(.tmp 75)]), none, none⟩, ⟨(some 74), (.mv (.tmp 76)), none, none⟩, ⟨(some 77), (.extract (.tmp 74) 0), none, none⟩, ⟨(some 78), (.extract (.tmp 74) 1), none, none⟩, ⟨(some 15), (.mv (.tmp 77)), none, none⟩, ⟨(some 16), (.mv (.tmp 78)), none, none⟩]) (.seq (.region [⟨(some 79), (.mv (.tmp 16)), none, none⟩]) (.cond (.tmp 79) (.region [⟨(some 80), (.mv (.tmp 10)), none, none⟩, ⟨(some 81), (.mv (.tmp 15)), none, none⟩, ⟨(some 82), (.buildS 1 [(.int .i64 0)] [(0, (1, (.tmp 81)))]), none, none⟩, ⟨(some 83), (.append 1 8 (.tmp 80) (.tmp 82)), none, none⟩, ⟨(some 10), (.mv (.tmp 83)), none, none⟩]) .skip)))) (.region [⟨(some 84), (.bin .add (.tmp 72) (.con (.int .i64 1))), none, none⟩, ⟨(some 72), (.mv (.tmp 84)), none, none⟩]))))
def b60 : ACode := (.seq (.region [⟨(some 44), (.bin .lss (.tmp 43) (.tmp 42)), none, none⟩]) (.seq (.cond (.tmp 44) .skip (.exit 0)) (.seq (.block 1 (.seq (.region [⟨(some 45), (.mv (.tmp 43)), none, none⟩, ⟨(some 46), (.idxASl 1 (.tmp 41) (.tmp 43)), none, none⟩, ⟨(some 47), (.load false 1 (.tmp 46)), none, none⟩, ⟨(some 11), (.mv (.tmp 45)), none, none⟩, ⟨(some 12), (.mv (.tmp 47)), none, none⟩]) (.seq (.region [⟨(some 48), (.mv (.tmp 7)), none, none⟩, ⟨(some 49), (.call (.con (.func 39 [] [])) [(.tmp 48)]), none, none⟩, ⟨(some 50), (.bin .eql (.tmp 49) (.con (.int .i64 0))), none, none⟩, ⟨(some 13), (.mv (.tmp 50)), none, none⟩]) (.seq (.region [⟨(some 51), (.mv (.tmp 7)), none, none⟩, ⟨(some 52), (.mv (.tmp 12)), none, none⟩, ⟨(some 53), (.call (.con (.func 33 [] [])) [(.tmp 51), (.tmp 52)]), none, none⟩, ⟨(some 14), (.mv (.tmp 53)), none, none⟩]) (.seq (.seq (.region [⟨(some 54), (.mv (.tmp 14)), none, none⟩, ⟨(some 55), (.mv (.tmp 13)), none, none⟩, ⟨(some 56), (.eq false .bool (.tmp 54) (.tmp 55)), none, none⟩]) (.cond (.tmp 56) (.seq (.region [⟨(some 6), (.mv (.con (.bool false))), none, none⟩]) .ret) .skip)) (.seq (.seq (.region [⟨(some 57), (.mv (.tmp 14)), none, none⟩]) (.cond (.tmp 57) (.region [⟨(some 58), (.mv (.tmp 9)), none, none⟩, ⟨(some 59), (.mv (.tmp 12)), none, none⟩, ⟨(some 60), (.buildS 1 [(.int .i64 0)] [(0, (1, (.tmp 59)))]), none, none⟩, ⟨(some 61), (.append 1 8 (.tmp 58) (.tmp 60)), none, none⟩, ⟨(some 9), (.mv (.tmp 61)), none, none⟩]) .skip)) (.seq (.seq (.region [⟨(some 62), (.mv (.tmp 11)), none, none⟩, ⟨(some 63), (.mv (.tmp 2)), none, none⟩, ⟨(some 64), (.len false (.tmp 63)), none, none⟩, ⟨(some 65), (.bin .geq (.tmp 62) (.tmp 64)), none, none⟩]) (.cond (.tmp 65) (.exit 1) .skip)) (.seq (.region [⟨(some 66), (.mv (.tmp 2)), none, none⟩, ⟨(some 67), (.mv (.tmp 11)), none, none⟩, ⟨(some 68), (.idxASl 1 (.tmp 66) (.tmp 67)), none, none⟩, ⟨(some 69), (.load false 1 (.tmp 68)), none, none⟩, ⟨(some 70), (.toInt .i64 (.tmp 69)), none, none⟩, ⟨(some 71), (.bin .rem (.tmp 70) (.con (.int .i64 4))), none, none⟩, ⟨(some 72), (.mv (.con (.int .i64 0))), none, none⟩]) (.block 2 (.loop (.seq (.region [⟨(some 73), (.bin .lss (.tmp 72) (.tmp 71)), none, none⟩]) (.seq (.cond (.tmp 73) .skip (.exit 2)) (.seq (.block 3 (.seq (.region [⟨(some 75), (.mv (.tmp 7)), none, none⟩, ⟨(some 76), (.call (.con (.func 35 [] [])) [(.tmp 75)]), none, none⟩, ⟨(some 74), (.mv (.tmp 76)), none, none⟩, ⟨(some 77), (.extract (.tmp 74) 0), none, none⟩, ⟨(some 78), (.extract (.tmp 74) 1), none, none⟩, ⟨(some 15), (.mv (.tmp 77)), none, none⟩, ⟨(some 16), (.mv (.tmp 78)), none, none⟩]) (.seq (.region [⟨(some 79), (.mv (.tmp 16)), none, none⟩]) (.cond (.tmp 79) (.region [⟨(some 80), (.mv (.tmp 10)), none, none⟩, ⟨(some 81), (.mv (.tmp 15)), none, none⟩, ⟨(some 82), (.buildS 1 [(.int .i64 0)] [(0, (1, (.tmp 81)))]), none, none⟩, ⟨(some 83), (.append 1 8 (.tmp 80) (.tmp 82)), none, none⟩, ⟨(some 10), (.mv (.tmp 83)), none, none⟩]) .skip)))) (.region [⟨(some 84), (.bin .add (.tmp 72) (.con (.int .i64 1))), none, none⟩, ⟨(some 72), (.mv (.tmp 84)), none, none⟩])))))))))))))) (.region [⟨(some 85), (.bin .add (.tmp 43) (.con (.int .i64 1))), none, none⟩, ⟨(some 43), (.mv (.tmp 85)), none, none⟩]))))

/-- Something taken, and put behind what was taken before. -/
theorem P6.taken {xs ys : List Int} {t u : AVal} {p g rm j f m : Nat} {R a b : List Int} {s9 s10 : AVal} {env : Env} {H : AHeap} (h : P6 xs ys t u p g rm j f (m + 1) R a b s9 s10 env H) {env' : Env}
    (e2 : env' 2 = env 2) (e7 : env' 7 = env 7) (e9 : env' 9 = env 9) (e41 : env' 41 = env 41) (e42 : env' 42 = env 42) (e43 : env' 43 = env 43) (e10 : env' 10 = .slice (H.next + 1) 0 (b.length + 1) (b.length + 1) (some 1)) :
    P6 xs ys t u p g rm j ((f + 1) % rm) m (R.set f 0) a (b ++ [R.getD f 0]) s9 (.slice (H.next + 1) 0 (b.length + 1) (b.length + 1) (some 1)) env'
      (pushH ((H.set g (.cells ((R.set f 0).map mkI) true)).set p (.cells [.slice g 0 rm rm none, .int .i64 (((f + 1) % rm : Nat) : Int), .int .i64 (m : Int)] true)) s10 (.int .i64 (R.getD f 0)) (b.map mkI ++ [.int .i64 (R.getD f 0)])) := by
  have hq := h.q
  have hf := hq.hf
  have hl := hq.lr
  have hr := hq.r1
  have hm := hq.hm
  have pn := hq.pn
  have gn := hq.gn
  have q3 := hq.upd ((f + 1) % rm) m (R.set f 0) (by simp [hl]) (Nat.mod_lt _ (by omega)) (by omega)
  have set_ow : ∀ {s : AVal} {cs : List AVal}, Ow H 1 s cs → p ∉ s.ids → g ∉ s.ids → ∀ o o', Ow ((H.set g o).set p o') 1 s cs := fun h hp hg o o' => by rw [Ow_set hp, Ow_set hg]; exact h
  have tk := items_take R hl hf hm
  have hd : items R rm f (m + 1) = R.getD f 0 :: (items R rm f (m + 1)).tail := by
    have h1 := items_head R (rm := rm) (m := m + 1) hf (by omega)
    have h2 := items_length R rm f (m + 1)
    cases hi : items R rm f (m + 1) with
    | nil => rw [hi] at h2; simp at h2
    | cons c l => rw [hi, List.getD_cons_zero] at h1; rw [List.tail_cons, ← h1]
  have hab := h.ab
  have lb := congrArg List.length hab
  rw [List.length_append, items_length] at lb
  refine ⟨e2.trans h.h2, e7.trans h.h7, e9.trans h.h9, e10, e41.trans h.h41, e42.trans h.h42, e43.trans h.h43, h.hj, ?_, ?_, ?_, ?_, ?_, h.yb, ?_, ?_, h.d9, ?_, h.dt, h.du, ?_, ?_, h.t9, ?_, h.u9, ?_, h.la, ?_, ?_⟩
  · exact q3.same (pushH_obj q3.pn h.d10.1) (pushH_obj q3.gn h.d10.2) (by rw [pushH_next]; omega)
  · exact (set_ow h.o9 h.d9.1 h.d9.2 _ _).over h.a9
  · have := Ow_pushed ((H.set g (.cells ((R.set f 0).map mkI) true)).set p (.cells [.slice g 0 rm rm none, .int .i64 (((f + 1) % rm : Nat) : Int), .int .i64 (m : Int)] true)) s10 (.int .i64 (R.getD f 0)) (b.map mkI)
    simp only [List.length_map, set_next] at this
    rw [List.map_append]
    exact this
  · exact (Sl_upd h.ht h.dt.1 h.dt.2).over h.t10 h.tid
  · exact (Sl_upd h.hu h.du.1 h.du.2).over h.u10 h.uid
  · intro i hi; rw [pushH_next]; have := h.tid i hi; simp only [set_next]; omega
  · intro i hi; rw [pushH_next]; have := h.uid i hi; simp only [set_next]; omega
  · simp only [AVal.ids, List.mem_singleton]; omega
  · exact Apart.new h.o9.lt (by omega)
  · exact Apart.new' h.o9.lt (by omega)
  · exact Apart.new h.tid (by omega)
  · exact Apart.new h.uid (by omega)
  · rw [List.length_append, List.length_singleton]; omega
  · rw [tk, List.append_assoc, List.singleton_append, ← hd]
    exact hab

theorem inner6 {xs ys : List Int} {t u : AVal} {p g rm j f m : Nat} {R a b : List Int} {s9 s10 : AVal} {env : Env} {H : AHeap} {c : Nat} (h : P6 xs ys t u p g rm j f m R a b s9 s10 env H) (hc : c ≤ 4) (h71 : env 71 = .int .i64 (c : Int)) (h72 : env 72 = .int .i64 0) :
    Outs (AX A (.loop b61) env H) fun e env' H' => e = .exit 2 ∧ ∃ f m R b s10, P6 xs ys t u p g rm j f m R a b s9 s10 env' H' := by
  refine loop_ends (I := fun (i : Nat) env' H' => i ≤ c ∧ env' 71 = .int .i64 (c : Int) ∧ env' 72 = .int .i64 (i : Int) ∧ ∃ f m R b s10, P6 xs ys t u p g rm j f m R a b s9 s10 env' H') (fun i => c - i) ?_ 0 env H ⟨Nat.zero_le _, h71, h72, _, _, _, _, _, h⟩
  rintro i env' H' ⟨hi, h71, h72, f, m, R, b, s10, h⟩
  have hq := h.q
  by_cases hlt : i < c
  · have e1 : decide ((i : Int) < (c : Int)) = true := by simp; omega
    have w1 : IntKind.i64.wrap ((i : Int) + 1) = ((i + 1 : Nat) : Int) := by rw [wrap_i64]; omega
    cases m with
    | zero =>
      have u35 := U35_2 hq rfl
      simp only [b61, h71, h72, e1, w1, h.h7, u35, s_seq, s_region, s_op, s_nil, s_grd, grd_t, grd_f, grd_u, s_cond, condX_bool, s_block, blockX_normal, blockX_exit, blockX_ret, blockX_cnd, blockX_none, o_mv, o_bin, o_un, o_pick, pick_bool, o_call, o_extract, ext_tuple, o_eq, o_toInt, int_int, o_field, field_agg, o_fieldA, fieldA_ptr, o_len, len_slice, len_nils, len_str, Nat.add_assoc, o_lenC, o_minmax, o_idxASl, idxASl_slice, new_obj, new_next, set_obj, set_next, noH_obj, noH_next, load_ptr, loadX_cells, apart_one, apart_agg, apart_all, store_ptr, storeX_cells, put_nil, put_cons, cells_agg, cells_int, cells_bool, cells_str, cells_slice, cells_nils, cells_ptr, tup_agg, tup_int, tup_bool, tup_str, tup_slice, tup_nils, tup_ptr, o_box, box_ok, fill_nil, fill_cons, s_draw, stepD_some, d_still, d_nil, ok_01, ok_12, ok_23, ok_02, ok_13, ok_03, okAt_some, rdOk_load, beqO_some, beq_same, all_nil, all_cons, if_true', eff_mv, eff_pick, eff_load, eff_bin, eff_eq, eff_un, eff_toInt, eff_call, eff_extract, eff_fieldA, eff_field, eff_idxASl, eff_len, eff_minmax, eff_build, eff_slc, eff_append, eff_new, eff_box, eff_store, eff_buildS, eff_nilck, eff_idxAArr, eff_idxArr, eff_idxStr, eff_slcStr, eff_slcArr, eff_mkFn, eff_idS, eff_bToS, eff_sToB, eff_mkS, eff_copy, eff_clearS, eff_mkIface, eff_lenC, or_self, imp_self, eq_self, d_op, d_rd, d_gt, d_gf, d_nt, d_nf, d_nu, aop_load, ans_some, cell_some, List.length_cons, List.length_nil, List.take_succ_cons, List.take_zero, List.drop_zero, List.drop_succ_cons, List.set_cons_zero, List.set_cons_succ, List.mem_cons, List.not_mem_nil, Nat.reduceAdd, Nat.reduceMul, Nat.reduceLeDiff, Int.reduceEq, Int.reduceLT, Int.reduceLE, Int.reduceAdd, Int.reduceSub, Int.reduceMul, Nat.zero_add, Nat.add_zero, Option.some.injEq, forall_eq_or_imp, forall_eq, or_false, and_self, false_imp_iff, implies_true, o_new, o_load, o_store, o_build, o_slc, o_append, o_buildS, buildX_some, o_nilck, nilck_ptr, nilck_fn, e_nilp0, e_nilp1, e_nilp2, e_nils0, e_nils1, o_mkFn, o_mkS, o_copy, o_clearS, clrX_some, o_idxAArr, idxAArr_ptr, o_idxArr, idxArr_agg, o_idxStr, idxStr_str, o_slcStr, slcStr_str, o_slcArr, o_mkIface, Nat.mul_one, stepO_some, stepO_cnd, stepO_none, setd_some, setd_none, set_get, ev_tmp, ev_con, init_get, List.getD_cons_zero, List.getD_cons_succ, List.map_cons, List.map_nil, List.append_nil, List.nil_append, List.cons_append, List.getElem?_cons_zero, List.getElem?_cons_succ, b_eql, b_neq, b_lss, b_leq, b_gtr, b_geq, b_add, b_sub, b_mul, b_quo, b_rem, u_not, u_neg, m_max, m_min, e_int, neg_f, neg_t, eqX_some, fldX_some, e_fld, e_fend, e_bool, e_str, Bool.and_true, beq_self_eq_true, vX_some, vX_none, vX_cnd, hX_some, hX_none, outX_some, outX_none, outX_cnd, seqX_cnd, seqX_normal, seqX_exit, seqX_ret, seqX_none, AX_skip, AX_ret, AX_exit, endX_cnd, endX_normal, endX_ret, endX_none, res_nil, res_tmp, res_cell, cons_some, cell_some, retX_some, ret_one, ret_nil, ret_two, call_fn, Option.map_some, Option.map_none, Option.bind_some, ↓reduceIte, Nat.reduceEqDiff, reduceCtorEq, ↓cnd_true, ↓cnd_false, Bool.not_true, Bool.not_false, decide_true, decide_false, b_tf, b_ft, Nat.left_eq_add, Nat.add_eq_left, eq_self, bne_self_eq_false]
      rw [outs_some]
      refine .inl ⟨rfl, i + 1, by omega, by omega, by simp [Env.set, h71], by simp [Env.set], f, 0, R, b, s10, ?_⟩
      exact { h with h2 := by simp [Env.set, h.h2], h7 := by simp [Env.set, h.h7], h9 := by simp [Env.set, h.h9], h10 := by simp [Env.set, h.h10], h41 := by simp [Env.set, h.h41], h42 := by simp [Env.set, h.h42], h43 := by simp [Env.set, h.h43] }
    | succ m =>
      have u35 := U35 hq (by omega)
      rw [Nat.add_sub_cancel] at u35
      obtain ⟨K, eK⟩ : ∃ K, (H'.set g (.cells ((R.set f 0).map mkI) true)).set p (.cells [.slice g 0 rm rm none, .int .i64 (((f + 1) % rm : Nat) : Int), .int .i64 (m : Int)] true) = K := ⟨_, rfl⟩
      have nK : K.next = H'.next := by rw [← eK]; rfl
      have oK : Ow K 1 s10 (b.map mkI) := by rw [← eK, Ow_set h.d10.1, Ow_set h.d10.2]; exact h.o10
      have hb : b.length ≤ 200 := by have := h.lb; have := h.la; omega
      have push := oK.push2 (by' := 8) (.int .i64 (R.getD f 0)) (by rw [List.length_map]; omega)
      rw [List.length_map] at push
      simp only [b61, h71, h72, e1, w1, h.h7, h.h10, u35, eK, push, s_seq, s_region, s_op, s_nil, s_grd, grd_t, grd_f, grd_u, s_cond, condX_bool, s_block, blockX_normal, blockX_exit, blockX_ret, blockX_cnd, blockX_none, o_mv, o_bin, o_un, o_pick, pick_bool, o_call, o_extract, ext_tuple, o_eq, o_toInt, int_int, o_field, field_agg, o_fieldA, fieldA_ptr, o_len, len_slice, len_nils, len_str, Nat.add_assoc, o_lenC, o_minmax, o_idxASl, idxASl_slice, new_obj, new_next, set_obj, set_next, noH_obj, noH_next, load_ptr, loadX_cells, apart_one, apart_agg, apart_all, store_ptr, storeX_cells, put_nil, put_cons, cells_agg, cells_int, cells_bool, cells_str, cells_slice, cells_nils, cells_ptr, tup_agg, tup_int, tup_bool, tup_str, tup_slice, tup_nils, tup_ptr, o_box, box_ok, fill_nil, fill_cons, s_draw, stepD_some, d_still, d_nil, ok_01, ok_12, ok_23, ok_02, ok_13, ok_03, okAt_some, rdOk_load, beqO_some, beq_same, all_nil, all_cons, if_true', eff_mv, eff_pick, eff_load, eff_bin, eff_eq, eff_un, eff_toInt, eff_call, eff_extract, eff_fieldA, eff_field, eff_idxASl, eff_len, eff_minmax, eff_build, eff_slc, eff_append, eff_new, eff_box, eff_store, eff_buildS, eff_nilck, eff_idxAArr, eff_idxArr, eff_idxStr, eff_slcStr, eff_slcArr, eff_mkFn, eff_idS, eff_bToS, eff_sToB, eff_mkS, eff_copy, eff_clearS, eff_mkIface, eff_lenC, or_self, imp_self, eq_self, d_op, d_rd, d_gt, d_gf, d_nt, d_nf, d_nu, aop_load, ans_some, cell_some, List.length_cons, List.length_nil, List.take_succ_cons, List.take_zero, List.drop_zero, List.drop_succ_cons, List.set_cons_zero, List.set_cons_succ, List.mem_cons, List.not_mem_nil, Nat.reduceAdd, Nat.reduceMul, Nat.reduceLeDiff, Int.reduceEq, Int.reduceLT, Int.reduceLE, Int.reduceAdd, Int.reduceSub, Int.reduceMul, Nat.zero_add, Nat.add_zero, Option.some.injEq, forall_eq_or_imp, forall_eq, or_false, and_self, false_imp_iff, implies_true, o_new, o_load, o_store, o_build, o_slc, o_append, o_buildS, buildX_some, o_nilck, nilck_ptr, nilck_fn, e_nilp0, e_nilp1, e_nilp2, e_nils0, e_nils1, o_mkFn, o_mkS, o_copy, o_clearS, clrX_some, o_idxAArr, idxAArr_ptr, o_idxArr, idxArr_agg, o_idxStr, idxStr_str, o_slcStr, slcStr_str, o_slcArr, o_mkIface, Nat.mul_one, stepO_some, stepO_cnd, stepO_none, setd_some, setd_none, set_get, ev_tmp, ev_con, init_get, List.getD_cons_zero, List.getD_cons_succ, List.map_cons, List.map_nil, List.append_nil, List.nil_append, List.cons_append, List.getElem?_cons_zero, List.getElem?_cons_succ, b_eql, b_neq, b_lss, b_leq, b_gtr, b_geq, b_add, b_sub, b_mul, b_quo, b_rem, u_not, u_neg, m_max, m_min, e_int, neg_f, neg_t, eqX_some, fldX_some, e_fld, e_fend, e_bool, e_str, Bool.and_true, beq_self_eq_true, vX_some, vX_none, vX_cnd, hX_some, hX_none, outX_some, outX_none, outX_cnd, seqX_cnd, seqX_normal, seqX_exit, seqX_ret, seqX_none, AX_skip, AX_ret, AX_exit, endX_cnd, endX_normal, endX_ret, endX_none, res_nil, res_tmp, res_cell, cons_some, cell_some, retX_some, ret_one, ret_nil, ret_two, call_fn, Option.map_some, Option.map_none, Option.bind_some, ↓reduceIte, Nat.reduceEqDiff, reduceCtorEq, ↓cnd_true, ↓cnd_false, Bool.not_true, Bool.not_false, decide_true, decide_false, b_tf, b_ft, Nat.left_eq_add, Nat.add_eq_left, eq_self, bne_self_eq_false]
      rw [outs_some]
      refine .inl ⟨rfl, i + 1, by omega, by omega, by simp [Env.set, h71], by simp [Env.set], (f + 1) % rm, m, R.set f 0, b ++ [R.getD f 0], .slice (H'.next + 1) 0 (b.length + 1) (b.length + 1) (some 1), ?_⟩
      rw [← eK]
      exact h.taken (by simp [Env.set]) (by simp [Env.set]) (by simp [Env.set]) (by simp [Env.set]) (by simp [Env.set]) (by simp [Env.set]) (by simp [Env.set, set_next])
  · have e1 : decide ((i : Int) < (c : Int)) = false := by simp; omega
    simp only [b61, h71, h72, e1, s_seq, s_region, s_op, s_nil, s_grd, grd_t, grd_f, grd_u, s_cond, condX_bool, s_block, blockX_normal, blockX_exit, blockX_ret, blockX_cnd, blockX_none, o_mv, o_bin, o_un, o_pick, pick_bool, o_call, o_extract, ext_tuple, o_eq, o_toInt, int_int, o_field, field_agg, o_fieldA, fieldA_ptr, o_len, len_slice, len_nils, len_str, Nat.add_assoc, o_lenC, o_minmax, o_idxASl, idxASl_slice, new_obj, new_next, set_obj, set_next, noH_obj, noH_next, load_ptr, loadX_cells, apart_one, apart_agg, apart_all, store_ptr, storeX_cells, put_nil, put_cons, cells_agg, cells_int, cells_bool, cells_str, cells_slice, cells_nils, cells_ptr, tup_agg, tup_int, tup_bool, tup_str, tup_slice, tup_nils, tup_ptr, o_box, box_ok, fill_nil, fill_cons, s_draw, stepD_some, d_still, d_nil, ok_01, ok_12, ok_23, ok_02, ok_13, ok_03, okAt_some, rdOk_load, beqO_some, beq_same, all_nil, all_cons, if_true', eff_mv, eff_pick, eff_load, eff_bin, eff_eq, eff_un, eff_toInt, eff_call, eff_extract, eff_fieldA, eff_field, eff_idxASl, eff_len, eff_minmax, eff_build, eff_slc, eff_append, eff_new, eff_box, eff_store, eff_buildS, eff_nilck, eff_idxAArr, eff_idxArr, eff_idxStr, eff_slcStr, eff_slcArr, eff_mkFn, eff_idS, eff_bToS, eff_sToB, eff_mkS, eff_copy, eff_clearS, eff_mkIface, eff_lenC, or_self, imp_self, eq_self, d_op, d_rd, d_gt, d_gf, d_nt, d_nf, d_nu, aop_load, ans_some, cell_some, List.length_cons, List.length_nil, List.take_succ_cons, List.take_zero, List.drop_zero, List.drop_succ_cons, List.set_cons_zero, List.set_cons_succ, List.mem_cons, List.not_mem_nil, Nat.reduceAdd, Nat.reduceMul, Nat.reduceLeDiff, Int.reduceEq, Int.reduceLT, Int.reduceLE, Int.reduceAdd, Int.reduceSub, Int.reduceMul, Nat.zero_add, Nat.add_zero, Option.some.injEq, forall_eq_or_imp, forall_eq, or_false, and_self, false_imp_iff, implies_true, o_new, o_load, o_store, o_build, o_slc, o_append, o_buildS, buildX_some, o_nilck, nilck_ptr, nilck_fn, e_nilp0, e_nilp1, e_nilp2, e_nils0, e_nils1, o_mkFn, o_mkS, o_copy, o_clearS, clrX_some, o_idxAArr, idxAArr_ptr, o_idxArr, idxArr_agg, o_idxStr, idxStr_str, o_slcStr, slcStr_str, o_slcArr, o_mkIface, Nat.mul_one, stepO_some, stepO_cnd, stepO_none, setd_some, setd_none, set_get, ev_tmp, ev_con, init_get, List.getD_cons_zero, List.getD_cons_succ, List.map_cons, List.map_nil, List.append_nil, List.nil_append, List.cons_append, List.getElem?_cons_zero, List.getElem?_cons_succ, b_eql, b_neq, b_lss, b_leq, b_gtr, b_geq, b_add, b_sub, b_mul, b_quo, b_rem, u_not, u_neg, m_max, m_min, e_int, neg_f, neg_t, eqX_some, fldX_some, e_fld, e_fend, e_bool, e_str, Bool.and_true, beq_self_eq_true, vX_some, vX_none, vX_cnd, hX_some, hX_none, outX_some, outX_none, outX_cnd, seqX_cnd, seqX_normal, seqX_exit, seqX_ret, seqX_none, AX_skip, AX_ret, AX_exit, endX_cnd, endX_normal, endX_ret, endX_none, res_nil, res_tmp, res_cell, cons_some, cell_some, retX_some, ret_one, ret_nil, ret_two, call_fn, Option.map_some, Option.map_none, Option.bind_some, ↓reduceIte, Nat.reduceEqDiff, reduceCtorEq, ↓cnd_true, ↓cnd_false, Bool.not_true, Bool.not_false, decide_true, decide_false, b_tf, b_ft, Nat.left_eq_add, Nat.add_eq_left, eq_self, bne_self_eq_false]
    rw [outs_some]
    refine .inr ⟨by simp, rfl, f, m, R, b, s10, ?_⟩
    exact { h with h2 := by simp [Env.set, h.h2], h7 := by simp [Env.set, h.h7], h9 := by simp [Env.set, h.h9], h10 := by simp [Env.set, h.h10], h41 := by simp [Env.set, h.h41], h42 := by simp [Env.set, h.h42], h43 := by simp [Env.set, h.h43] }

/-- Something put, and noted. -/
theorem P6.putd {xs ys : List Int} {t u : AVal} {p g rm j f m : Nat} {R a b : List Int} {s9 s10 : AVal} {env : Env} {H : AHeap} (h : P6 xs ys t u p g rm j f m R a b s9 s10 env H) (hm' : m < rm) (ha : a.length < 200) (x : Int) {env' : Env}
    (e2 : env' 2 = env 2) (e7 : env' 7 = env 7) (e10 : env' 10 = env 10) (e41 : env' 41 = env 41) (e42 : env' 42 = env 42) (e43 : env' 43 = env 43) (e9 : env' 9 = .slice (H.next + 1) 0 (a.length + 1) (a.length + 1) (some 1)) :
    P6 xs ys t u p g rm j f (m + 1) (R.set ((f + m) % rm) x) (a ++ [x]) b (.slice (H.next + 1) 0 (a.length + 1) (a.length + 1) (some 1)) s10 env'
      (pushH ((H.set g (.cells ((R.set ((f + m) % rm) x).map mkI) true)).set p (.cells [.slice g 0 rm rm none, .int .i64 (f : Int), .int .i64 ((m + 1 : Nat) : Int)] true)) s9 (.int .i64 x) (a.map mkI ++ [.int .i64 x])) := by
  have hq := h.q
  have hf := hq.hf
  have hl := hq.lr
  have hr := hq.r1
  have pn := hq.pn
  have gn := hq.gn
  have q3 := hq.upd f (m + 1) (R.set ((f + m) % rm) x) (by simp [hl]) hf (by omega)
  have set_ow : ∀ {s : AVal} {cs : List AVal}, Ow H 1 s cs → p ∉ s.ids → g ∉ s.ids → ∀ o o', Ow ((H.set g o).set p o') 1 s cs := fun h hp hg o o' => by rw [Ow_set hp, Ow_set hg]; exact h
  refine ⟨e2.trans h.h2, e7.trans h.h7, e9, e10.trans h.h10, e41.trans h.h41, e42.trans h.h42, e43.trans h.h43, h.hj, ?_, ?_, ?_, ?_, ?_, h.yb, ?_, ?_, ?_, h.d10, h.dt, h.du, ?_, ?_, ?_, h.t10, ?_, h.u10, ?_, ?_, ?_⟩
  · exact q3.same (pushH_obj q3.pn h.d9.1) (pushH_obj q3.gn h.d9.2) (by rw [pushH_next]; omega)
  · have := Ow_pushed ((H.set g (.cells ((R.set ((f + m) % rm) x).map mkI) true)).set p (.cells [.slice g 0 rm rm none, .int .i64 (f : Int), .int .i64 ((m + 1 : Nat) : Int)] true)) s9 (.int .i64 x) (a.map mkI)
    simp only [List.length_map, set_next] at this
    rw [List.map_append]
    exact this
  · exact (set_ow h.o10 h.d10.1 h.d10.2 _ _).over h.a10
  · exact (Sl_upd h.ht h.dt.1 h.dt.2).over h.t9 h.tid
  · exact (Sl_upd h.hu h.du.1 h.du.2).over h.u9 h.uid
  · intro i hi; rw [pushH_next]; have := h.tid i hi; simp only [set_next]; omega
  · intro i hi; rw [pushH_next]; have := h.uid i hi; simp only [set_next]; omega
  · simp only [AVal.ids, List.mem_singleton]; omega
  · exact Apart.new' h.o10.lt (by omega)
  · exact Apart.new h.o10.lt (by omega)
  · exact Apart.new h.tid (by omega)
  · exact Apart.new h.uid (by omega)
  · rw [List.length_append, List.length_singleton]; omega
  · rw [List.length_append, List.length_singleton]; have := h.lb; omega
  · rw [items_put R hl hf hm', ← List.append_assoc, ← h.ab]

theorem P6.slots {xs ys : List Int} {t u : AVal} {p g rm j j' f m : Nat} {R a b : List Int} {s9 s10 : AVal} {env : Env} {H : AHeap} (h : P6 xs ys t u p g rm j f m R a b s9 s10 env H) {env' : Env} (hj : j' ≤ xs.length)
    (e2 : env' 2 = env 2) (e7 : env' 7 = env 7) (e9 : env' 9 = env 9) (e10 : env' 10 = env 10) (e41 : env' 41 = env 41) (e42 : env' 42 = env 42) (e43 : env' 43 = .int .i64 (j' : Int)) : P6 xs ys t u p g rm j' f m R a b s9 s10 env' H :=
  { h with h2 := e2.trans h.h2, h7 := e7.trans h.h7, h9 := e9.trans h.h9, h10 := e10.trans h.h10, h41 := e41.trans h.h41, h42 := e42.trans h.h42, h43 := e43, hj := ⟨hj, h.hj.2⟩ }

theorem round6 {xs ys : List Int} {t u : AVal} {p g rm j f m : Nat} {R a b : List Int} {s9 s10 : AVal} {env : Env} {H : AHeap} (h : P6 xs ys t u p g rm j f m R a b s9 s10 env H) (ha : a.length ≤ j) (hlt : j < xs.length) :
    Outs (AX A b60 env H) fun e env' H' => e = .normal ∧ ∃ f m R a b s9 s10, P6 xs ys t u p g rm (j + 1) f m R a b s9 s10 env' H' ∧ a.length ≤ j + 1 := by
  have hq := h.q
  have hr := hq.r1
  have hm := hq.hm
  have hj := h.hj
  have e1 : decide ((j : Int) < (xs.length : Int)) = true := by simp; omega
  have w1 : IntKind.i64.wrap ((j : Int) + 1) = ((j + 1 : Nat) : Int) := by rw [wrap_i64]; omega
  have ht := h.ht
  have hsl : slen t = xs.length := slen_of ht
  obtain ⟨id, off, cap, gg, l, own, et, ho, hk, hc, _⟩ := ht.at (i := j) (by omega)
  have hc0 := hc 0 (by decide)
  simp only [Nat.mul_one, Nat.add_zero] at hc0
  rw [get_mk hlt, show xs.getD j 0 = xs[j] by rw [List.getD_eq_getElem?_getD, List.getElem?_eq_getElem hlt]; rfl] at hc0
  rw [hsl] at et
  have ha1 : aidx xs.length (.int .i64 (j : Int)) = some j := by simp [aidx]; omega
  have ul := h.hu.len1
  rw [List.length_map] at ul
  have husl : slen u = ys.length := by have := h.hu.length; simp at this; omega
  have h41 := h.h41
  rw [et] at h41
  rcases Nat.lt_or_ge m rm with hm' | hm' <;> rcases Nat.lt_or_ge j ys.length with hu | hu
  · have u33 := U33 hq hm' xs[j]
    obtain ⟨K, eK⟩ : ∃ K, (H.set g (.cells ((R.set ((f + m) % rm) xs[j]).map mkI) true)).set p (.cells [.slice g 0 rm rm none, .int .i64 (f : Int), .int .i64 ((m + 1 : Nat) : Int)] true) = K := ⟨_, rfl⟩
    have nK : K.next = H.next := by rw [← eK]; rfl
    have oK : Ow K 1 s9 (a.map mkI) := by rw [← eK, Ow_set h.d9.1, Ow_set h.d9.2]; exact h.o9
    have push := oK.push2 (by' := 8) (.int .i64 xs[j]) (by rw [List.length_map]; omega)
    rw [List.length_map] at push
    have e2 : decide (((rm - m : Nat) : Int) = 0) = false := by simp; omega
    have e3 : decide ((ys.length : Int) ≤ (j : Int)) = false := by simp; omega
    obtain ⟨id2, off2, cap2, g2, l2, own2, eu, ho2, _, hc2, _⟩ := h.hu.at (i := j) (by omega)
    have hc3 := hc2 0 (by decide)
    simp only [Nat.mul_one, Nat.add_zero] at hc3
    rw [List.getElem?_map, List.getElem?_eq_getElem hu, Option.map_some] at hc3
    rw [husl] at eu
    have yb := h.yb ys[j] (List.getElem_mem hu)
    have w2 : IntKind.i64.wrap ys[j] = ys[j] := by rw [wrap_i64]; omega
    have w3 : ys[j].tmod 4 = ((ys[j].toNat % 4 : Nat) : Int) := by rw [Int.tmod_eq_emod_of_nonneg yb.1]; omega
    have ha2 : aidx ys.length (.int .i64 (j : Int)) = some j := by simp [aidx]; omega
    have ob : (pushH K s9 (.int .i64 xs[j]) (a.map mkI ++ [.int .i64 xs[j]])).obj id2 = some (.cells l2 own2) := by
      have hlt2 := h.uid id2 (by rw [eu]; simp [AVal.ids])
      have hn9 := h.u9 id2 (by rw [eu]; simp [AVal.ids])
      have hp2 : id2 ≠ p := fun e => h.du.1 (by rw [eu]; simp [AVal.ids, e])
      have hg2 : id2 ≠ g := fun e => h.du.2 (by rw [eu]; simp [AVal.ids, e])
      rw [pushH_obj (by omega) hn9, ← eK]
      simp [AHeap.set, hp2, hg2, ho2]
    have h2' := h.h2
    rw [eu] at h2'
    have ul' := ul
    rw [eu] at ul'
    simp only [b60, h41, h2', h.h7, h.h9, h.h10, h.h42, h.h43, e1, w1, ha1, ho, hc0, U39 hq, ul', u33, eK, push, e2, e3, idxASl_slice, ha2, ob, hc3, w2, w3, s_seq, s_region, s_op, s_nil, s_grd, grd_t, grd_f, grd_u, s_cond, condX_bool, s_block, blockX_normal, blockX_exit, blockX_ret, blockX_cnd, blockX_none, o_mv, o_bin, o_un, o_pick, pick_bool, o_call, o_extract, ext_tuple, o_eq, o_toInt, int_int, o_field, field_agg, o_fieldA, fieldA_ptr, o_len, len_slice, len_nils, len_str, Nat.add_assoc, o_lenC, o_minmax, o_idxASl, idxASl_slice, new_obj, new_next, set_obj, set_next, noH_obj, noH_next, load_ptr, loadX_cells, apart_one, apart_agg, apart_all, store_ptr, storeX_cells, put_nil, put_cons, cells_agg, cells_int, cells_bool, cells_str, cells_slice, cells_nils, cells_ptr, tup_agg, tup_int, tup_bool, tup_str, tup_slice, tup_nils, tup_ptr, o_box, box_ok, fill_nil, fill_cons, s_draw, stepD_some, d_still, d_nil, ok_01, ok_12, ok_23, ok_02, ok_13, ok_03, okAt_some, rdOk_load, beqO_some, beq_same, all_nil, all_cons, if_true', eff_mv, eff_pick, eff_load, eff_bin, eff_eq, eff_un, eff_toInt, eff_call, eff_extract, eff_fieldA, eff_field, eff_idxASl, eff_len, eff_minmax, eff_build, eff_slc, eff_append, eff_new, eff_box, eff_store, eff_buildS, eff_nilck, eff_idxAArr, eff_idxArr, eff_idxStr, eff_slcStr, eff_slcArr, eff_mkFn, eff_idS, eff_bToS, eff_sToB, eff_mkS, eff_copy, eff_clearS, eff_mkIface, eff_lenC, or_self, imp_self, eq_self, d_op, d_rd, d_gt, d_gf, d_nt, d_nf, d_nu, aop_load, ans_some, cell_some, List.length_cons, List.length_nil, List.take_succ_cons, List.take_zero, List.drop_zero, List.drop_succ_cons, List.set_cons_zero, List.set_cons_succ, List.mem_cons, List.not_mem_nil, Nat.reduceAdd, Nat.reduceMul, Nat.reduceLeDiff, Int.reduceEq, Int.reduceLT, Int.reduceLE, Int.reduceAdd, Int.reduceSub, Int.reduceMul, Nat.zero_add, Nat.add_zero, Option.some.injEq, forall_eq_or_imp, forall_eq, or_false, and_self, false_imp_iff, implies_true, o_new, o_load, o_store, o_build, o_slc, o_append, o_buildS, buildX_some, o_nilck, nilck_ptr, nilck_fn, e_nilp0, e_nilp1, e_nilp2, e_nils0, e_nils1, o_mkFn, o_mkS, o_copy, o_clearS, clrX_some, o_idxAArr, idxAArr_ptr, o_idxArr, idxArr_agg, o_idxStr, idxStr_str, o_slcStr, slcStr_str, o_slcArr, o_mkIface, Nat.mul_one, stepO_some, stepO_cnd, stepO_none, setd_some, setd_none, set_get, ev_tmp, ev_con, init_get, List.getD_cons_zero, List.getD_cons_succ, List.map_cons, List.map_nil, List.append_nil, List.nil_append, List.cons_append, List.getElem?_cons_zero, List.getElem?_cons_succ, b_eql, b_neq, b_lss, b_leq, b_gtr, b_geq, b_add, b_sub, b_mul, b_quo, b_rem, u_not, u_neg, m_max, m_min, e_int, neg_f, neg_t, eqX_some, fldX_some, e_fld, e_fend, e_bool, e_str, Bool.and_true, beq_self_eq_true, vX_some, vX_none, vX_cnd, hX_some, hX_none, outX_some, outX_none, outX_cnd, seqX_cnd, seqX_normal, seqX_exit, seqX_ret, seqX_none, AX_skip, AX_ret, AX_exit, endX_cnd, endX_normal, endX_ret, endX_none, res_nil, res_tmp, res_cell, cons_some, cell_some, retX_some, ret_one, ret_nil, ret_two, call_fn, Option.map_some, Option.map_none, Option.bind_some, ↓reduceIte, Nat.reduceEqDiff, reduceCtorEq, ↓cnd_true, ↓cnd_false, Bool.not_true, Bool.not_false, decide_true, decide_false, b_tf, b_ft, Nat.left_eq_add, Nat.add_eq_left, eq_self, bne_self_eq_false]
    repeat (first | refine outs_seq ?_ | refine outs_block ?_ | refine outs_step ?_ | refine outs_stepD ?_ | refine rets_end ?_ | refine ans_end ?_)
    refine (inner6 (c := ys[j].toNat % 4) (xs := xs) (ys := ys) (t := t) (u := u) (p := p) (g := g) (rm := rm) (j := j) (f := f) (m := m + 1) (R := R.set ((f + m) % rm) xs[j]) (a := a ++ [xs[j]]) (b := b) (s9 := .slice (H.next + 1) 0 (a.length + 1) (a.length + 1) (some 1)) (s10 := s10) ?_ (by omega) ?_ ?_).mono ?_
    · rw [← eK]
      exact h.putd hm' (by omega) xs[j] (by simp [Env.set]) (by simp [Env.set]) (by simp [Env.set]) (by simp [Env.set]) (by simp [Env.set]) (by simp [Env.set]) (by simp [Env.set, set_next])
    · simp [Env.set]
    · simp [Env.set]
    · rintro e env' H' ⟨rfl, f', m', R', b', s10', h'⟩
      simp only [outs_some, h'.h43, w1, s_seq, s_region, s_op, s_nil, s_grd, grd_t, grd_f, grd_u, s_cond, condX_bool, s_block, blockX_normal, blockX_exit, blockX_ret, blockX_cnd, blockX_none, o_mv, o_bin, o_un, o_pick, pick_bool, o_call, o_extract, ext_tuple, o_eq, o_toInt, int_int, o_field, field_agg, o_fieldA, fieldA_ptr, o_len, len_slice, len_nils, len_str, Nat.add_assoc, o_lenC, o_minmax, o_idxASl, idxASl_slice, new_obj, new_next, set_obj, set_next, noH_obj, noH_next, load_ptr, loadX_cells, apart_one, apart_agg, apart_all, store_ptr, storeX_cells, put_nil, put_cons, cells_agg, cells_int, cells_bool, cells_str, cells_slice, cells_nils, cells_ptr, tup_agg, tup_int, tup_bool, tup_str, tup_slice, tup_nils, tup_ptr, o_box, box_ok, fill_nil, fill_cons, s_draw, stepD_some, d_still, d_nil, ok_01, ok_12, ok_23, ok_02, ok_13, ok_03, okAt_some, rdOk_load, beqO_some, beq_same, all_nil, all_cons, if_true', eff_mv, eff_pick, eff_load, eff_bin, eff_eq, eff_un, eff_toInt, eff_call, eff_extract, eff_fieldA, eff_field, eff_idxASl, eff_len, eff_minmax, eff_build, eff_slc, eff_append, eff_new, eff_box, eff_store, eff_buildS, eff_nilck, eff_idxAArr, eff_idxArr, eff_idxStr, eff_slcStr, eff_slcArr, eff_mkFn, eff_idS, eff_bToS, eff_sToB, eff_mkS, eff_copy, eff_clearS, eff_mkIface, eff_lenC, or_self, imp_self, eq_self, d_op, d_rd, d_gt, d_gf, d_nt, d_nf, d_nu, aop_load, ans_some, cell_some, List.length_cons, List.length_nil, List.take_succ_cons, List.take_zero, List.drop_zero, List.drop_succ_cons, List.set_cons_zero, List.set_cons_succ, List.mem_cons, List.not_mem_nil, Nat.reduceAdd, Nat.reduceMul, Nat.reduceLeDiff, Int.reduceEq, Int.reduceLT, Int.reduceLE, Int.reduceAdd, Int.reduceSub, Int.reduceMul, Nat.zero_add, Nat.add_zero, Option.some.injEq, forall_eq_or_imp, forall_eq, or_false, and_self, false_imp_iff, implies_true, o_new, o_load, o_store, o_build, o_slc, o_append, o_buildS, buildX_some, o_nilck, nilck_ptr, nilck_fn, e_nilp0, e_nilp1, e_nilp2, e_nils0, e_nils1, o_mkFn, o_mkS, o_copy, o_clearS, clrX_some, o_idxAArr, idxAArr_ptr, o_idxArr, idxArr_agg, o_idxStr, idxStr_str, o_slcStr, slcStr_str, o_slcArr, o_mkIface, Nat.mul_one, stepO_some, stepO_cnd, stepO_none, setd_some, setd_none, set_get, ev_tmp, ev_con, init_get, List.getD_cons_zero, List.getD_cons_succ, List.map_cons, List.map_nil, List.append_nil, List.nil_append, List.cons_append, List.getElem?_cons_zero, List.getElem?_cons_succ, b_eql, b_neq, b_lss, b_leq, b_gtr, b_geq, b_add, b_sub, b_mul, b_quo, b_rem, u_not, u_neg, m_max, m_min, e_int, neg_f, neg_t, eqX_some, fldX_some, e_fld, e_fend, e_bool, e_str, Bool.and_true, beq_self_eq_true, vX_some, vX_none, vX_cnd, hX_some, hX_none, outX_some, outX_none, outX_cnd, seqX_cnd, seqX_normal, seqX_exit, seqX_ret, seqX_none, AX_skip, AX_ret, AX_exit, endX_cnd, endX_normal, endX_ret, endX_none, res_nil, res_tmp, res_cell, cons_some, cell_some, retX_some, ret_one, ret_nil, ret_two, call_fn, Option.map_some, Option.map_none, Option.bind_some, ↓reduceIte, Nat.reduceEqDiff, reduceCtorEq, ↓cnd_true, ↓cnd_false, Bool.not_true, Bool.not_false, decide_true, decide_false, b_tf, b_ft, Nat.left_eq_add, Nat.add_eq_left, eq_self, bne_self_eq_false]
      exact ⟨trivial, f', m', R', _, b', _, s10', h'.slots hlt (by simp [Env.set]) (by simp [Env.set]) (by simp [Env.set]) (by simp [Env.set]) (by simp [Env.set]) (by simp [Env.set]) (by simp [Env.set]), by rw [List.length_append, List.length_singleton]; omega⟩
  · have u33 := U33 hq hm' xs[j]
    obtain ⟨K, eK⟩ : ∃ K, (H.set g (.cells ((R.set ((f + m) % rm) xs[j]).map mkI) true)).set p (.cells [.slice g 0 rm rm none, .int .i64 (f : Int), .int .i64 ((m + 1 : Nat) : Int)] true) = K := ⟨_, rfl⟩
    have nK : K.next = H.next := by rw [← eK]; rfl
    have oK : Ow K 1 s9 (a.map mkI) := by rw [← eK, Ow_set h.d9.1, Ow_set h.d9.2]; exact h.o9
    have push := oK.push2 (by' := 8) (.int .i64 xs[j]) (by rw [List.length_map]; omega)
    rw [List.length_map] at push
    have e2 : decide (((rm - m : Nat) : Int) = 0) = false := by simp; omega
    have e3 : decide ((ys.length : Int) ≤ (j : Int)) = true := by simp; omega
    simp only [b60, h41, h.h2, h.h7, h.h9, h.h10, h.h42, h.h43, e1, w1, ha1, ho, hc0, U39 hq, ul, u33, eK, push, e2, e3, s_seq, s_region, s_op, s_nil, s_grd, grd_t, grd_f, grd_u, s_cond, condX_bool, s_block, blockX_normal, blockX_exit, blockX_ret, blockX_cnd, blockX_none, o_mv, o_bin, o_un, o_pick, pick_bool, o_call, o_extract, ext_tuple, o_eq, o_toInt, int_int, o_field, field_agg, o_fieldA, fieldA_ptr, o_len, len_slice, len_nils, len_str, Nat.add_assoc, o_lenC, o_minmax, o_idxASl, idxASl_slice, new_obj, new_next, set_obj, set_next, noH_obj, noH_next, load_ptr, loadX_cells, apart_one, apart_agg, apart_all, store_ptr, storeX_cells, put_nil, put_cons, cells_agg, cells_int, cells_bool, cells_str, cells_slice, cells_nils, cells_ptr, tup_agg, tup_int, tup_bool, tup_str, tup_slice, tup_nils, tup_ptr, o_box, box_ok, fill_nil, fill_cons, s_draw, stepD_some, d_still, d_nil, ok_01, ok_12, ok_23, ok_02, ok_13, ok_03, okAt_some, rdOk_load, beqO_some, beq_same, all_nil, all_cons, if_true', eff_mv, eff_pick, eff_load, eff_bin, eff_eq, eff_un, eff_toInt, eff_call, eff_extract, eff_fieldA, eff_field, eff_idxASl, eff_len, eff_minmax, eff_build, eff_slc, eff_append, eff_new, eff_box, eff_store, eff_buildS, eff_nilck, eff_idxAArr, eff_idxArr, eff_idxStr, eff_slcStr, eff_slcArr, eff_mkFn, eff_idS, eff_bToS, eff_sToB, eff_mkS, eff_copy, eff_clearS, eff_mkIface, eff_lenC, or_self, imp_self, eq_self, d_op, d_rd, d_gt, d_gf, d_nt, d_nf, d_nu, aop_load, ans_some, cell_some, List.length_cons, List.length_nil, List.take_succ_cons, List.take_zero, List.drop_zero, List.drop_succ_cons, List.set_cons_zero, List.set_cons_succ, List.mem_cons, List.not_mem_nil, Nat.reduceAdd, Nat.reduceMul, Nat.reduceLeDiff, Int.reduceEq, Int.reduceLT, Int.reduceLE, Int.reduceAdd, Int.reduceSub, Int.reduceMul, Nat.zero_add, Nat.add_zero, Option.some.injEq, forall_eq_or_imp, forall_eq, or_false, and_self, false_imp_iff, implies_true, o_new, o_load, o_store, o_build, o_slc, o_append, o_buildS, buildX_some, o_nilck, nilck_ptr, nilck_fn, e_nilp0, e_nilp1, e_nilp2, e_nils0, e_nils1, o_mkFn, o_mkS, o_copy, o_clearS, clrX_some, o_idxAArr, idxAArr_ptr, o_idxArr, idxArr_agg, o_idxStr, idxStr_str, o_slcStr, slcStr_str, o_slcArr, o_mkIface, Nat.mul_one, stepO_some, stepO_cnd, stepO_none, setd_some, setd_none, set_get, ev_tmp, ev_con, init_get, List.getD_cons_zero, List.getD_cons_succ, List.map_cons, List.map_nil, List.append_nil, List.nil_append, List.cons_append, List.getElem?_cons_zero, List.getElem?_cons_succ, b_eql, b_neq, b_lss, b_leq, b_gtr, b_geq, b_add, b_sub, b_mul, b_quo, b_rem, u_not, u_neg, m_max, m_min, e_int, neg_f, neg_t, eqX_some, fldX_some, e_fld, e_fend, e_bool, e_str, Bool.and_true, beq_self_eq_true, vX_some, vX_none, vX_cnd, hX_some, hX_none, outX_some, outX_none, outX_cnd, seqX_cnd, seqX_normal, seqX_exit, seqX_ret, seqX_none, AX_skip, AX_ret, AX_exit, endX_cnd, endX_normal, endX_ret, endX_none, res_nil, res_tmp, res_cell, cons_some, cell_some, retX_some, ret_one, ret_nil, ret_two, call_fn, Option.map_some, Option.map_none, Option.bind_some, ↓reduceIte, Nat.reduceEqDiff, reduceCtorEq, ↓cnd_true, ↓cnd_false, Bool.not_true, Bool.not_false, decide_true, decide_false, b_tf, b_ft, Nat.left_eq_add, Nat.add_eq_left, eq_self, bne_self_eq_false]
    rw [outs_some]
    refine ⟨rfl, f, m + 1, R.set ((f + m) % rm) xs[j], a ++ [xs[j]], b, .slice (H.next + 1) 0 (a.length + 1) (a.length + 1) (some 1), s10, ?_, by rw [List.length_append, List.length_singleton]; omega⟩
    rw [← eK]
    exact (h.putd hm' (by omega) xs[j] (env' := env.set 9 (.slice (H.next + 1) 0 (a.length + 1) (a.length + 1) (some 1))) (by simp [Env.set]) (by simp [Env.set]) (by simp [Env.set]) (by simp [Env.set]) (by simp [Env.set]) (by simp [Env.set]) (by simp [Env.set])).slots hlt (by simp [Env.set]) (by simp [Env.set]) (by simp [Env.set, set_next]) (by simp [Env.set]) (by simp [Env.set]) (by simp [Env.set]) (by simp [Env.set])
  · have hm' : m = rm := by omega
    have u33 := U33_2 hq hm' xs[j]
    have e2 : ((rm - m : Nat) : Int) = 0 := by omega
    have e3 : decide ((ys.length : Int) ≤ (j : Int)) = false := by simp; omega
    obtain ⟨id2, off2, cap2, g2, l2, own2, eu, ho2, _, hc2, _⟩ := h.hu.at (i := j) (by omega)
    have hc3 := hc2 0 (by decide)
    simp only [Nat.mul_one, Nat.add_zero] at hc3
    rw [List.getElem?_map, List.getElem?_eq_getElem hu, Option.map_some] at hc3
    rw [husl] at eu
    have yb := h.yb ys[j] (List.getElem_mem hu)
    have w2 : IntKind.i64.wrap ys[j] = ys[j] := by rw [wrap_i64]; omega
    have w3 : ys[j].tmod 4 = ((ys[j].toNat % 4 : Nat) : Int) := by rw [Int.tmod_eq_emod_of_nonneg yb.1]; omega
    have ha2 : aidx ys.length (.int .i64 (j : Int)) = some j := by simp [aidx]; omega
    have ob : H.obj id2 = some (.cells l2 own2) := ho2
    have h2' := h.h2
    rw [eu] at h2'
    have ul' := ul
    rw [eu] at ul'
    simp only [b60, h41, h2', h.h7, h.h9, h.h10, h.h42, h.h43, e1, w1, ha1, ho, hc0, U39 hq, ul', u33, e2, e3, idxASl_slice, ha2, ob, hc3, w2, w3, s_seq, s_region, s_op, s_nil, s_grd, grd_t, grd_f, grd_u, s_cond, condX_bool, s_block, blockX_normal, blockX_exit, blockX_ret, blockX_cnd, blockX_none, o_mv, o_bin, o_un, o_pick, pick_bool, o_call, o_extract, ext_tuple, o_eq, o_toInt, int_int, o_field, field_agg, o_fieldA, fieldA_ptr, o_len, len_slice, len_nils, len_str, Nat.add_assoc, o_lenC, o_minmax, o_idxASl, idxASl_slice, new_obj, new_next, set_obj, set_next, noH_obj, noH_next, load_ptr, loadX_cells, apart_one, apart_agg, apart_all, store_ptr, storeX_cells, put_nil, put_cons, cells_agg, cells_int, cells_bool, cells_str, cells_slice, cells_nils, cells_ptr, tup_agg, tup_int, tup_bool, tup_str, tup_slice, tup_nils, tup_ptr, o_box, box_ok, fill_nil, fill_cons, s_draw, stepD_some, d_still, d_nil, ok_01, ok_12, ok_23, ok_02, ok_13, ok_03, okAt_some, rdOk_load, beqO_some, beq_same, all_nil, all_cons, if_true', eff_mv, eff_pick, eff_load, eff_bin, eff_eq, eff_un, eff_toInt, eff_call, eff_extract, eff_fieldA, eff_field, eff_idxASl, eff_len, eff_minmax, eff_build, eff_slc, eff_append, eff_new, eff_box, eff_store, eff_buildS, eff_nilck, eff_idxAArr, eff_idxArr, eff_idxStr, eff_slcStr, eff_slcArr, eff_mkFn, eff_idS, eff_bToS, eff_sToB, eff_mkS, eff_copy, eff_clearS, eff_mkIface, eff_lenC, or_self, imp_self, eq_self, d_op, d_rd, d_gt, d_gf, d_nt, d_nf, d_nu, aop_load, ans_some, cell_some, List.length_cons, List.length_nil, List.take_succ_cons, List.take_zero, List.drop_zero, List.drop_succ_cons, List.set_cons_zero, List.set_cons_succ, List.mem_cons, List.not_mem_nil, Nat.reduceAdd, Nat.reduceMul, Nat.reduceLeDiff, Int.reduceEq, Int.reduceLT, Int.reduceLE, Int.reduceAdd, Int.reduceSub, Int.reduceMul, Nat.zero_add, Nat.add_zero, Option.some.injEq, forall_eq_or_imp, forall_eq, or_false, and_self, false_imp_iff, implies_true, o_new, o_load, o_store, o_build, o_slc, o_append, o_buildS, buildX_some, o_nilck, nilck_ptr, nilck_fn, e_nilp0, e_nilp1, e_nilp2, e_nils0, e_nils1, o_mkFn, o_mkS, o_copy, o_clearS, clrX_some, o_idxAArr, idxAArr_ptr, o_idxArr, idxArr_agg, o_idxStr, idxStr_str, o_slcStr, slcStr_str, o_slcArr, o_mkIface, Nat.mul_one, stepO_some, stepO_cnd, stepO_none, setd_some, setd_none, set_get, ev_tmp, ev_con, init_get, List.getD_cons_zero, List.getD_cons_succ, List.map_cons, List.map_nil, List.append_nil, List.nil_append, List.cons_append, List.getElem?_cons_zero, List.getElem?_cons_succ, b_eql, b_neq, b_lss, b_leq, b_gtr, b_geq, b_add, b_sub, b_mul, b_quo, b_rem, u_not, u_neg, m_max, m_min, e_int, neg_f, neg_t, eqX_some, fldX_some, e_fld, e_fend, e_bool, e_str, Bool.and_true, beq_self_eq_true, vX_some, vX_none, vX_cnd, hX_some, hX_none, outX_some, outX_none, outX_cnd, seqX_cnd, seqX_normal, seqX_exit, seqX_ret, seqX_none, AX_skip, AX_ret, AX_exit, endX_cnd, endX_normal, endX_ret, endX_none, res_nil, res_tmp, res_cell, cons_some, cell_some, retX_some, ret_one, ret_nil, ret_two, call_fn, Option.map_some, Option.map_none, Option.bind_some, ↓reduceIte, Nat.reduceEqDiff, reduceCtorEq, ↓cnd_true, ↓cnd_false, Bool.not_true, Bool.not_false, decide_true, decide_false, b_tf, b_ft, Nat.left_eq_add, Nat.add_eq_left, eq_self, bne_self_eq_false]
    repeat (first | refine outs_seq ?_ | refine outs_block ?_ | refine outs_step ?_ | refine outs_stepD ?_ | refine rets_end ?_ | refine ans_end ?_)
    refine (inner6 (c := ys[j].toNat % 4) (xs := xs) (ys := ys) (t := t) (u := u) (p := p) (g := g) (rm := rm) (j := j) (f := f) (m := m) (R := R) (a := a) (b := b) (s9 := s9) (s10 := s10) ?_ (by omega) ?_ ?_).mono ?_
    · exact h.slots (j' := j) (by omega) (by simp [Env.set]) (by simp [Env.set]) (by simp [Env.set, h.h9]) (by simp [Env.set]) (by simp [Env.set]) (by simp [Env.set]) (by simp [Env.set, h.h43])
    · simp [Env.set]
    · simp [Env.set]
    · rintro e env' H' ⟨rfl, f', m', R', b', s10', h'⟩
      simp only [outs_some, h'.h43, w1, s_seq, s_region, s_op, s_nil, s_grd, grd_t, grd_f, grd_u, s_cond, condX_bool, s_block, blockX_normal, blockX_exit, blockX_ret, blockX_cnd, blockX_none, o_mv, o_bin, o_un, o_pick, pick_bool, o_call, o_extract, ext_tuple, o_eq, o_toInt, int_int, o_field, field_agg, o_fieldA, fieldA_ptr, o_len, len_slice, len_nils, len_str, Nat.add_assoc, o_lenC, o_minmax, o_idxASl, idxASl_slice, new_obj, new_next, set_obj, set_next, noH_obj, noH_next, load_ptr, loadX_cells, apart_one, apart_agg, apart_all, store_ptr, storeX_cells, put_nil, put_cons, cells_agg, cells_int, cells_bool, cells_str, cells_slice, cells_nils, cells_ptr, tup_agg, tup_int, tup_bool, tup_str, tup_slice, tup_nils, tup_ptr, o_box, box_ok, fill_nil, fill_cons, s_draw, stepD_some, d_still, d_nil, ok_01, ok_12, ok_23, ok_02, ok_13, ok_03, okAt_some, rdOk_load, beqO_some, beq_same, all_nil, all_cons, if_true', eff_mv, eff_pick, eff_load, eff_bin, eff_eq, eff_un, eff_toInt, eff_call, eff_extract, eff_fieldA, eff_field, eff_idxASl, eff_len, eff_minmax, eff_build, eff_slc, eff_append, eff_new, eff_box, eff_store, eff_buildS, eff_nilck, eff_idxAArr, eff_idxArr, eff_idxStr, eff_slcStr, eff_slcArr, eff_mkFn, eff_idS, eff_bToS, eff_sToB, eff_mkS, eff_copy, eff_clearS, eff_mkIface, eff_lenC, or_self, imp_self, eq_self, d_op, d_rd, d_gt, d_gf, d_nt, d_nf, d_nu, aop_load, ans_some, cell_some, List.length_cons, List.length_nil, List.take_succ_cons, List.take_zero, List.drop_zero, List.drop_succ_cons, List.set_cons_zero, List.set_cons_succ, List.mem_cons, List.not_mem_nil, Nat.reduceAdd, Nat.reduceMul, Nat.reduceLeDiff, Int.reduceEq, Int.reduceLT, Int.reduceLE, Int.reduceAdd, Int.reduceSub, Int.reduceMul, Nat.zero_add, Nat.add_zero, Option.some.injEq, forall_eq_or_imp, forall_eq, or_false, and_self, false_imp_iff, implies_true, o_new, o_load, o_store, o_build, o_slc, o_append, o_buildS, buildX_some, o_nilck, nilck_ptr, nilck_fn, e_nilp0, e_nilp1, e_nilp2, e_nils0, e_nils1, o_mkFn, o_mkS, o_copy, o_clearS, clrX_some, o_idxAArr, idxAArr_ptr, o_idxArr, idxArr_agg, o_idxStr, idxStr_str, o_slcStr, slcStr_str, o_slcArr, o_mkIface, Nat.mul_one, stepO_some, stepO_cnd, stepO_none, setd_some, setd_none, set_get, ev_tmp, ev_con, init_get, List.getD_cons_zero, List.getD_cons_succ, List.map_cons, List.map_nil, List.append_nil, List.nil_append, List.cons_append, List.getElem?_cons_zero, List.getElem?_cons_succ, b_eql, b_neq, b_lss, b_leq, b_gtr, b_geq, b_add, b_sub, b_mul, b_quo, b_rem, u_not, u_neg, m_max, m_min, e_int, neg_f, neg_t, eqX_some, fldX_some, e_fld, e_fend, e_bool, e_str, Bool.and_true, beq_self_eq_true, vX_some, vX_none, vX_cnd, hX_some, hX_none, outX_some, outX_none, outX_cnd, seqX_cnd, seqX_normal, seqX_exit, seqX_ret, seqX_none, AX_skip, AX_ret, AX_exit, endX_cnd, endX_normal, endX_ret, endX_none, res_nil, res_tmp, res_cell, cons_some, cell_some, retX_some, ret_one, ret_nil, ret_two, call_fn, Option.map_some, Option.map_none, Option.bind_some, ↓reduceIte, Nat.reduceEqDiff, reduceCtorEq, ↓cnd_true, ↓cnd_false, Bool.not_true, Bool.not_false, decide_true, decide_false, b_tf, b_ft, Nat.left_eq_add, Nat.add_eq_left, eq_self, bne_self_eq_false]
      exact ⟨trivial, f', m', R', _, b', _, s10', h'.slots hlt (by simp [Env.set]) (by simp [Env.set]) (by simp [Env.set]) (by simp [Env.set]) (by simp [Env.set]) (by simp [Env.set]) (by simp [Env.set]), by omega⟩
  · have hm' : m = rm := by omega
    have u33 := U33_2 hq hm' xs[j]
    have e2 : ((rm - m : Nat) : Int) = 0 := by omega
    have e3 : decide ((ys.length : Int) ≤ (j : Int)) = true := by simp; omega
    simp only [b60, h41, h.h2, h.h7, h.h9, h.h10, h.h42, h.h43, e1, w1, ha1, ho, hc0, U39 hq, ul, u33, e2, e3, s_seq, s_region, s_op, s_nil, s_grd, grd_t, grd_f, grd_u, s_cond, condX_bool, s_block, blockX_normal, blockX_exit, blockX_ret, blockX_cnd, blockX_none, o_mv, o_bin, o_un, o_pick, pick_bool, o_call, o_extract, ext_tuple, o_eq, o_toInt, int_int, o_field, field_agg, o_fieldA, fieldA_ptr, o_len, len_slice, len_nils, len_str, Nat.add_assoc, o_lenC, o_minmax, o_idxASl, idxASl_slice, new_obj, new_next, set_obj, set_next, noH_obj, noH_next, load_ptr, loadX_cells, apart_one, apart_agg, apart_all, store_ptr, storeX_cells, put_nil, put_cons, cells_agg, cells_int, cells_bool, cells_str, cells_slice, cells_nils, cells_ptr, tup_agg, tup_int, tup_bool, tup_str, tup_slice, tup_nils, tup_ptr, o_box, box_ok, fill_nil, fill_cons, s_draw, stepD_some, d_still, d_nil, ok_01, ok_12, ok_23, ok_02, ok_13, ok_03, okAt_some, rdOk_load, beqO_some, beq_same, all_nil, all_cons, if_true', eff_mv, eff_pick, eff_load, eff_bin, eff_eq, eff_un, eff_toInt, eff_call, eff_extract, eff_fieldA, eff_field, eff_idxASl, eff_len, eff_minmax, eff_build, eff_slc, eff_append, eff_new, eff_box, eff_store, eff_buildS, eff_nilck, eff_idxAArr, eff_idxArr, eff_idxStr, eff_slcStr, eff_slcArr, eff_mkFn, eff_idS, eff_bToS, eff_sToB, eff_mkS, eff_copy, eff_clearS, eff_mkIface, eff_lenC, or_self, imp_self, eq_self, d_op, d_rd, d_gt, d_gf, d_nt, d_nf, d_nu, aop_load, ans_some, cell_some, List.length_cons, List.length_nil, List.take_succ_cons, List.take_zero, List.drop_zero, List.drop_succ_cons, List.set_cons_zero, List.set_cons_succ, List.mem_cons, List.not_mem_nil, Nat.reduceAdd, Nat.reduceMul, Nat.reduceLeDiff, Int.reduceEq, Int.reduceLT, Int.reduceLE, Int.reduceAdd, Int.reduceSub, Int.reduceMul, Nat.zero_add, Nat.add_zero, Option.some.injEq, forall_eq_or_imp, forall_eq, or_false, and_self, false_imp_iff, implies_true, o_new, o_load, o_store, o_build, o_slc, o_append, o_buildS, buildX_some, o_nilck, nilck_ptr, nilck_fn, e_nilp0, e_nilp1, e_nilp2, e_nils0, e_nils1, o_mkFn, o_mkS, o_copy, o_clearS, clrX_some, o_idxAArr, idxAArr_ptr, o_idxArr, idxArr_agg, o_idxStr, idxStr_str, o_slcStr, slcStr_str, o_slcArr, o_mkIface, Nat.mul_one, stepO_some, stepO_cnd, stepO_none, setd_some, setd_none, set_get, ev_tmp, ev_con, init_get, List.getD_cons_zero, List.getD_cons_succ, List.map_cons, List.map_nil, List.append_nil, List.nil_append, List.cons_append, List.getElem?_cons_zero, List.getElem?_cons_succ, b_eql, b_neq, b_lss, b_leq, b_gtr, b_geq, b_add, b_sub, b_mul, b_quo, b_rem, u_not, u_neg, m_max, m_min, e_int, neg_f, neg_t, eqX_some, fldX_some, e_fld, e_fend, e_bool, e_str, Bool.and_true, beq_self_eq_true, vX_some, vX_none, vX_cnd, hX_some, hX_none, outX_some, outX_none, outX_cnd, seqX_cnd, seqX_normal, seqX_exit, seqX_ret, seqX_none, AX_skip, AX_ret, AX_exit, endX_cnd, endX_normal, endX_ret, endX_none, res_nil, res_tmp, res_cell, cons_some, cell_some, retX_some, ret_one, ret_nil, ret_two, call_fn, Option.map_some, Option.map_none, Option.bind_some, ↓reduceIte, Nat.reduceEqDiff, reduceCtorEq, ↓cnd_true, ↓cnd_false, Bool.not_true, Bool.not_false, decide_true, decide_false, b_tf, b_ft, Nat.left_eq_add, Nat.add_eq_left, eq_self, bne_self_eq_false]
    rw [outs_some]
    exact ⟨rfl, f, m, R, a, b, s9, s10, h.slots hlt (by simp [Env.set]) (by simp [Env.set]) (by simp [Env.set, h.h9]) (by simp [Env.set]) (by simp [Env.set]) (by simp [Env.set]) (by simp [Env.set]), by omega⟩

theorem loop6 {xs ys : List Int} {t u : AVal} {p g rm f m : Nat} {R a b : List Int} {s9 s10 : AVal} {env : Env} {H : AHeap} (h : P6 xs ys t u p g rm 0 f m R a b s9 s10 env H) (ha : a.length ≤ 0) :
    Outs (AX A (.loop b60) env H) fun e env' H' => e = .exit 0 ∧ ∃ f m R a b s9 s10, P6 xs ys t u p g rm xs.length f m R a b s9 s10 env' H' := by
  refine loop_ends (I := fun (j : Nat) env' H' => ∃ f m R a b s9 s10, P6 xs ys t u p g rm j f m R a b s9 s10 env' H' ∧ a.length ≤ j) (fun j => xs.length - j) ?_ 0 env H ⟨f, m, R, a, b, s9, s10, h, ha⟩
  rintro j env' H' ⟨f, m, R, a, b, s9, s10, h, ha⟩
  by_cases hlt : j < xs.length
  · refine (round6 h ha hlt).mono fun e env' H' ⟨h1, h2⟩ => .inl ⟨h1, j + 1, by omega, h2⟩
  · have e1 : decide ((j : Int) < (xs.length : Int)) = false := by simp; omega
    have hj : j = xs.length := by have := h.hj; omega
    subst hj
    simp only [b60, h.h42, h.h43, e1, s_seq, s_region, s_op, s_nil, s_grd, grd_t, grd_f, grd_u, s_cond, condX_bool, s_block, blockX_normal, blockX_exit, blockX_ret, blockX_cnd, blockX_none, o_mv, o_bin, o_un, o_pick, pick_bool, o_call, o_extract, ext_tuple, o_eq, o_toInt, int_int, o_field, field_agg, o_fieldA, fieldA_ptr, o_len, len_slice, len_nils, len_str, Nat.add_assoc, o_lenC, o_minmax, o_idxASl, idxASl_slice, new_obj, new_next, set_obj, set_next, noH_obj, noH_next, load_ptr, loadX_cells, apart_one, apart_agg, apart_all, store_ptr, storeX_cells, put_nil, put_cons, cells_agg, cells_int, cells_bool, cells_str, cells_slice, cells_nils, cells_ptr, tup_agg, tup_int, tup_bool, tup_str, tup_slice, tup_nils, tup_ptr, o_box, box_ok, fill_nil, fill_cons, s_draw, stepD_some, d_still, d_nil, ok_01, ok_12, ok_23, ok_02, ok_13, ok_03, okAt_some, rdOk_load, beqO_some, beq_same, all_nil, all_cons, if_true', eff_mv, eff_pick, eff_load, eff_bin, eff_eq, eff_un, eff_toInt, eff_call, eff_extract, eff_fieldA, eff_field, eff_idxASl, eff_len, eff_minmax, eff_build, eff_slc, eff_append, eff_new, eff_box, eff_store, eff_buildS, eff_nilck, eff_idxAArr, eff_idxArr, eff_idxStr, eff_slcStr, eff_slcArr, eff_mkFn, eff_idS, eff_bToS, eff_sToB, eff_mkS, eff_copy, eff_clearS, eff_mkIface, eff_lenC, or_self, imp_self, eq_self, d_op, d_rd, d_gt, d_gf, d_nt, d_nf, d_nu, aop_load, ans_some, cell_some, List.length_cons, List.length_nil, List.take_succ_cons, List.take_zero, List.drop_zero, List.drop_succ_cons, List.set_cons_zero, List.set_cons_succ, List.mem_cons, List.not_mem_nil, Nat.reduceAdd, Nat.reduceMul, Nat.reduceLeDiff, Int.reduceEq, Int.reduceLT, Int.reduceLE, Int.reduceAdd, Int.reduceSub, Int.reduceMul, Nat.zero_add, Nat.add_zero, Option.some.injEq, forall_eq_or_imp, forall_eq, or_false, and_self, false_imp_iff, implies_true, o_new, o_load, o_store, o_build, o_slc, o_append, o_buildS, buildX_some, o_nilck, nilck_ptr, nilck_fn, e_nilp0, e_nilp1, e_nilp2, e_nils0, e_nils1, o_mkFn, o_mkS, o_copy, o_clearS, clrX_some, o_idxAArr, idxAArr_ptr, o_idxArr, idxArr_agg, o_idxStr, idxStr_str, o_slcStr, slcStr_str, o_slcArr, o_mkIface, Nat.mul_one, stepO_some, stepO_cnd, stepO_none, setd_some, setd_none, set_get, ev_tmp, ev_con, init_get, List.getD_cons_zero, List.getD_cons_succ, List.map_cons, List.map_nil, List.append_nil, List.nil_append, List.cons_append, List.getElem?_cons_zero, List.getElem?_cons_succ, b_eql, b_neq, b_lss, b_leq, b_gtr, b_geq, b_add, b_sub, b_mul, b_quo, b_rem, u_not, u_neg, m_max, m_min, e_int, neg_f, neg_t, eqX_some, fldX_some, e_fld, e_fend, e_bool, e_str, Bool.and_true, beq_self_eq_true, vX_some, vX_none, vX_cnd, hX_some, hX_none, outX_some, outX_none, outX_cnd, seqX_cnd, seqX_normal, seqX_exit, seqX_ret, seqX_none, AX_skip, AX_ret, AX_exit, endX_cnd, endX_normal, endX_ret, endX_none, res_nil, res_tmp, res_cell, cons_some, cell_some, retX_some, ret_one, ret_nil, ret_two, call_fn, Option.map_some, Option.map_none, Option.bind_some, ↓reduceIte, Nat.reduceEqDiff, reduceCtorEq, ↓cnd_true, ↓cnd_false, Bool.not_true, Bool.not_false, decide_true, decide_false, b_tf, b_ft, Nat.left_eq_add, Nat.add_eq_left, eq_self, bne_self_eq_false]
    rw [outs_some]
    exact .inr ⟨by simp, rfl, f, m, R, a, b, s9, s10, h.slots (Nat.le_refl _) (by simp [Env.set]) (by simp [Env.set]) (by simp [Env.set]) (by simp [Env.set]) (by simp [Env.set]) (by simp [Env.set]) (by simp [Env.set, h.h43])⟩

/-- All that is left, put behind what was taken: just what was put. -/
theorem tail6 {xs ys : List Int} {t u : AVal} {p g rm j f m : Nat} {R a b : List Int} {s9 s10 : AVal} {env : Env} {H : AHeap} (h : P6 xs ys t u p g rm j f m R a b s9 s10 env H) :
    ∃ v w K K', AC A 41 [.ptr p 0] H = some (v, K) ∧ aappend K 1 8 s10 v = some (w, K') ∧ AC A 40 [s9, w] K' = some (.bool true, K') ∧ Q K' true p g rm f m R ∧ alenT false s9 = some a.length ∧ alenT false s10 = some b.length := by
  have hq := h.q
  have hm := hq.hm
  have hr := hq.r1
  have l9 := h.o9.sl.len1
  have l10 := h.o10.sl.len1
  rw [List.length_map] at l9 l10
  have hb : a.length < 9223372036854775807 := by have := h.la; omega
  by_cases h0 : m = 0
  · subst h0
    have hab := h.ab
    rw [show items R rm f 0 = [] from rfl, List.append_nil] at hab
    have ap : aappend H 1 8 s10 .nils = some (s10, H) := by
      rcases h.o10 with ⟨e, _⟩ | ⟨id, n, e, _⟩
      · rw [e]; exact app_none_nils rfl rfl
      · rw [e]; exact app_none (Nat.le_refl _) rfl rfl
    refine ⟨_, _, _, _, U41_2 hq rfl, ap, ?_, hq, l9, l10⟩
    have := h.o10.sl
    rw [← hab] at this
    rw [U40 h.o9.sl this hb, decide_eq_true rfl]
  · have kp := Keeps.new H (.cells ((items R rm f m).map mkI) true)
    have q1 := hq.keep kp
    have ow : Ow (H.new (.cells ((items R rm f m).map mkI) true)) 1 s10 (b.map mkI) := h.o10.keeps kp.1 fun i hi => kp.2 i (h.o10.lt i hi)
    have o9 : Ow (H.new (.cells ((items R rm f m).map mkI) true)) 1 s9 (a.map mkI) := h.o9.keeps kp.1 fun i hi => kp.2 i (h.o9.lt i hi)
    have s10l : slen s10 = b.length := slen_of h.o10.sl
    have ac : acells (H.new (.cells ((items R rm f m).map mkI) true)) 1 m (.slice H.next 0 m m (some 1)) = some ((items R rm f m).map mkI) := by
      have := (Ow.made (K := H) (es := 1) (n := m) (cs := (items R rm f m).map mkI) (by omega) (by simp [items_length])).sl.cells.2
      exact this
    have hbl := h.lb
    have hal := h.la
    have ap := ow.append (by' := 8) (n := m) (x := .slice H.next 0 m m (some 1)) (new := (items R rm f m).map mkI) (by decide) rfl ac (by omega) (by rw [s10l]; omega)
    refine ⟨_, _, _, _, U41 hq h0, ap, ?_, ?_, l9, l10⟩
    · have g1 : Sl ((delS (H.new (.cells ((items R rm f m).map mkI) true)) s10).new (.cells (b.map mkI ++ (items R rm f m).map mkI) true)) 1 (.slice (H.new (.cells ((items R rm f m).map mkI) true)).next 0 (slen s10 + m) (slen s10 + m) (some 1)) (a.map mkI) := by
        rw [h.ab, List.map_append]
        exact (Ow.grown (es := 1) (n := m) (by omega) (by rw [List.length_map, s10l, Nat.mul_one]) (by rw [List.length_map, items_length, Nat.mul_one])).sl
      have g2 : Sl ((delS (H.new (.cells ((items R rm f m).map mkI) true)) s10).new (.cells (b.map mkI ++ (items R rm f m).map mkI) true)) 1 s9 (a.map mkI) := by
        refine o9.sl.keeps fun i hi => ?_
        have hlt := h.o9.lt i hi
        rw [new_obj, delS_next, new_next, if_neg (by omega), delS_obj _ _ (h.a9 i hi)]
      rw [U40 g2 g1 hb, decide_eq_true rfl]
    · refine q1.same ?_ ?_ (by show _ ≤ (delS _ _).next + 1; rw [delS_next]; exact Nat.le_succ _)
      · have := hq.pn
        rw [new_obj, delS_next, new_next, if_neg (by omega), delS_obj _ _ h.d10.1]
      · have := hq.gn
        rw [new_obj, delS_next, new_next, if_neg (by omega), delS_obj _ _ h.d10.2]

theorem run6 (n : Int) (xs ys : List Int) (t u : AVal) (H : AHeap) (ht : Sl H 1 t (xs.map mkI)) (tid : ∀ i, i ∈ t.ids → i < H.next) (hu : Sl H 1 u (ys.map (AVal.int .u8))) (uid : ∀ i, i ∈ u.ids → i < H.next) (yb : ∀ y, y ∈ ys → 0 ≤ y ∧ y ≤ 255) :
    Ans (AC A 6 [.int .i64 n, t, u] H) (.bool true) := by
  rw [s_fn (A := A) (f := 6) (x := QuFns.c6) rfl rfl rfl]
  have hl := ht.len1
  rw [List.length_map] at hl
  by_cases hn : 1 ≤ n ∧ n ≤ 64
  · obtain ⟨rm, rfl⟩ : ∃ rm : Nat, n = (rm : Int) := ⟨n.toNat, by omega⟩
    have u31 := U31 rm (by omega) H
    by_cases h2 : xs.length ≤ 200
    · have e3 : decide ((200 : Int) < (xs.length : Int)) = false := by simp; omega
      simp only [c6, U30, u31, e3, hl, s_seq, s_region, s_op, s_nil, s_grd, grd_t, grd_f, grd_u, s_cond, condX_bool, s_block, blockX_normal, blockX_exit, blockX_ret, blockX_cnd, blockX_none, o_mv, o_bin, o_un, o_pick, pick_bool, o_call, o_extract, ext_tuple, o_eq, o_toInt, int_int, o_field, field_agg, o_fieldA, fieldA_ptr, o_len, len_slice, len_nils, len_str, Nat.add_assoc, o_lenC, o_minmax, o_idxASl, idxASl_slice, new_obj, new_next, set_obj, set_next, noH_obj, noH_next, load_ptr, loadX_cells, apart_one, apart_agg, apart_all, store_ptr, storeX_cells, put_nil, put_cons, cells_agg, cells_int, cells_bool, cells_str, cells_slice, cells_nils, cells_ptr, tup_agg, tup_int, tup_bool, tup_str, tup_slice, tup_nils, tup_ptr, o_box, box_ok, fill_nil, fill_cons, s_draw, stepD_some, d_still, d_nil, ok_01, ok_12, ok_23, ok_02, ok_13, ok_03, okAt_some, rdOk_load, beqO_some, beq_same, all_nil, all_cons, if_true', eff_mv, eff_pick, eff_load, eff_bin, eff_eq, eff_un, eff_toInt, eff_call, eff_extract, eff_fieldA, eff_field, eff_idxASl, eff_len, eff_minmax, eff_build, eff_slc, eff_append, eff_new, eff_box, eff_store, eff_buildS, eff_nilck, eff_idxAArr, eff_idxArr, eff_idxStr, eff_slcStr, eff_slcArr, eff_mkFn, eff_idS, eff_bToS, eff_sToB, eff_mkS, eff_copy, eff_clearS, eff_mkIface, eff_lenC, or_self, imp_self, eq_self, d_op, d_rd, d_gt, d_gf, d_nt, d_nf, d_nu, aop_load, ans_some, cell_some, List.length_cons, List.length_nil, List.take_succ_cons, List.take_zero, List.drop_zero, List.drop_succ_cons, List.set_cons_zero, List.set_cons_succ, List.mem_cons, List.not_mem_nil, Nat.reduceAdd, Nat.reduceMul, Nat.reduceLeDiff, Int.reduceEq, Int.reduceLT, Int.reduceLE, Int.reduceAdd, Int.reduceSub, Int.reduceMul, Nat.zero_add, Nat.add_zero, Option.some.injEq, forall_eq_or_imp, forall_eq, or_false, and_self, false_imp_iff, implies_true, o_new, o_load, o_store, o_build, o_slc, o_append, o_buildS, buildX_some, o_nilck, nilck_ptr, nilck_fn, e_nilp0, e_nilp1, e_nilp2, e_nils0, e_nils1, o_mkFn, o_mkS, o_copy, o_clearS, clrX_some, o_idxAArr, idxAArr_ptr, o_idxArr, idxArr_agg, o_idxStr, idxStr_str, o_slcStr, slcStr_str, o_slcArr, o_mkIface, Nat.mul_one, stepO_some, stepO_cnd, stepO_none, setd_some, setd_none, set_get, ev_tmp, ev_con, init_get, List.getD_cons_zero, List.getD_cons_succ, List.map_cons, List.map_nil, List.append_nil, List.nil_append, List.cons_append, List.getElem?_cons_zero, List.getElem?_cons_succ, b_eql, b_neq, b_lss, b_leq, b_gtr, b_geq, b_add, b_sub, b_mul, b_quo, b_rem, u_not, u_neg, m_max, m_min, e_int, neg_f, neg_t, eqX_some, fldX_some, e_fld, e_fend, e_bool, e_str, Bool.and_true, beq_self_eq_true, vX_some, vX_none, vX_cnd, hX_some, hX_none, outX_some, outX_none, outX_cnd, seqX_cnd, seqX_normal, seqX_exit, seqX_ret, seqX_none, AX_skip, AX_ret, AX_exit, endX_cnd, endX_normal, endX_ret, endX_none, res_nil, res_tmp, res_cell, cons_some, cell_some, retX_some, ret_one, ret_nil, ret_two, call_fn, Option.map_some, Option.map_none, Option.bind_some, ↓reduceIte, Nat.reduceEqDiff, reduceCtorEq, ↓cnd_true, ↓cnd_false, Bool.not_true, Bool.not_false, decide_true, decide_false, b_tf, b_ft, Nat.left_eq_add, Nat.add_eq_left, eq_self, bne_self_eq_false]
      repeat (first | refine outs_seq ?_ | refine outs_block ?_ | refine outs_step ?_ | refine outs_stepD ?_ | refine rets_end ?_ | refine ans_end ?_)
      refine (loop6 (xs := xs) (ys := ys) (t := t) (u := u) (p := H.next + 1) (g := H.next) (rm := rm) (f := 0) (m := 0) (R := List.replicate rm 0) (a := []) (b := []) (s9 := .nils) (s10 := .nils) ?_ (Nat.le_refl _)).mono ?_
      · have kp : Keeps H ((H.new (.cells ((List.replicate rm (0 : Int)).map mkI) true)).new (.cells [.slice H.next 0 rm rm none, .int .i64 0, .int .i64 0] true)) := (Keeps.new _ _).trans (Keeps.new _ _)
        refine ⟨by simp [Env.set, ainit], by simp [Env.set], by simp [Env.set], by simp [Env.set], by simp [Env.set, ainit], by simp [Env.set], by simp [Env.set], ⟨by omega, h2⟩, ⟨?_, ?_, by simp, by omega, by omega, by omega, by omega, ?_, ?_⟩, Ow.nil _ _, Ow.nil _ _, ht.keep tid kp, hu.keep uid kp, yb, fun i hi => Nat.lt_of_lt_of_le (tid i hi) kp.1, fun i hi => Nat.lt_of_lt_of_le (uid i hi) kp.1, by simp [AVal.ids], by simp [AVal.ids], ?_, ?_, by simp [Apart, AVal.ids], by simp [Apart, AVal.ids], by simp [Apart, AVal.ids], by simp [Apart, AVal.ids], by simp [Apart, AVal.ids], by simp [Apart, AVal.ids], by simp, by simp, rfl⟩
        · simp [AHeap.new]
        · simp only [new_obj, new_next]; rw [if_neg (by omega), if_pos trivial]
        · simp [AHeap.new]
        · simp only [new_next]; omega
        · exact ⟨fun hx => by have := tid _ hx; omega, fun hx => by have := tid _ hx; omega⟩
        · exact ⟨fun hx => by have := uid _ hx; omega, fun hx => by have := uid _ hx; omega⟩
      · rintro e env H' ⟨rfl, f, m, R, a, b, s9, s10, h⟩
        obtain ⟨v, w, K, K', u41, ap, u40, q', l9, l10⟩ := tail6 h
        have u37 := U37 q'
        have hab := congrArg List.length h.ab
        rw [List.length_append, items_length] at hab
        have hal := h.la
        have w1 : IntKind.i64.wrap ((a.length : Int) - (b.length : Int)) = (m : Int) := by rw [wrap_i64]; omega
        simp only [outs_some, h.h7, h.h9, h.h10, u41, ap, u40, u37, l9, l10, w1, s_seq, s_region, s_op, s_nil, s_grd, grd_t, grd_f, grd_u, s_cond, condX_bool, s_block, blockX_normal, blockX_exit, blockX_ret, blockX_cnd, blockX_none, o_mv, o_bin, o_un, o_pick, pick_bool, o_call, o_extract, ext_tuple, o_eq, o_toInt, int_int, o_field, field_agg, o_fieldA, fieldA_ptr, o_len, len_slice, len_nils, len_str, Nat.add_assoc, o_lenC, o_minmax, o_idxASl, idxASl_slice, new_obj, new_next, set_obj, set_next, noH_obj, noH_next, load_ptr, loadX_cells, apart_one, apart_agg, apart_all, store_ptr, storeX_cells, put_nil, put_cons, cells_agg, cells_int, cells_bool, cells_str, cells_slice, cells_nils, cells_ptr, tup_agg, tup_int, tup_bool, tup_str, tup_slice, tup_nils, tup_ptr, o_box, box_ok, fill_nil, fill_cons, s_draw, stepD_some, d_still, d_nil, ok_01, ok_12, ok_23, ok_02, ok_13, ok_03, okAt_some, rdOk_load, beqO_some, beq_same, all_nil, all_cons, if_true', eff_mv, eff_pick, eff_load, eff_bin, eff_eq, eff_un, eff_toInt, eff_call, eff_extract, eff_fieldA, eff_field, eff_idxASl, eff_len, eff_minmax, eff_build, eff_slc, eff_append, eff_new, eff_box, eff_store, eff_buildS, eff_nilck, eff_idxAArr, eff_idxArr, eff_idxStr, eff_slcStr, eff_slcArr, eff_mkFn, eff_idS, eff_bToS, eff_sToB, eff_mkS, eff_copy, eff_clearS, eff_mkIface, eff_lenC, or_self, imp_self, eq_self, d_op, d_rd, d_gt, d_gf, d_nt, d_nf, d_nu, aop_load, ans_some, cell_some, List.length_cons, List.length_nil, List.take_succ_cons, List.take_zero, List.drop_zero, List.drop_succ_cons, List.set_cons_zero, List.set_cons_succ, List.mem_cons, List.not_mem_nil, Nat.reduceAdd, Nat.reduceMul, Nat.reduceLeDiff, Int.reduceEq, Int.reduceLT, Int.reduceLE, Int.reduceAdd, Int.reduceSub, Int.reduceMul, Nat.zero_add, Nat.add_zero, Option.some.injEq, forall_eq_or_imp, forall_eq, or_false, and_self, false_imp_iff, implies_true, o_new, o_load, o_store, o_build, o_slc, o_append, o_buildS, buildX_some, o_nilck, nilck_ptr, nilck_fn, e_nilp0, e_nilp1, e_nilp2, e_nils0, e_nils1, o_mkFn, o_mkS, o_copy, o_clearS, clrX_some, o_idxAArr, idxAArr_ptr, o_idxArr, idxArr_agg, o_idxStr, idxStr_str, o_slcStr, slcStr_str, o_slcArr, o_mkIface, Nat.mul_one, stepO_some, stepO_cnd, stepO_none, setd_some, setd_none, set_get, ev_tmp, ev_con, init_get, List.getD_cons_zero, List.getD_cons_succ, List.map_cons, List.map_nil, List.append_nil, List.nil_append, List.cons_append, List.getElem?_cons_zero, List.getElem?_cons_succ, b_eql, b_neq, b_lss, b_leq, b_gtr, b_geq, b_add, b_sub, b_mul, b_quo, b_rem, u_not, u_neg, m_max, m_min, e_int, neg_f, neg_t, eqX_some, fldX_some, e_fld, e_fend, e_bool, e_str, Bool.and_true, beq_self_eq_true, vX_some, vX_none, vX_cnd, hX_some, hX_none, outX_some, outX_none, outX_cnd, seqX_cnd, seqX_normal, seqX_exit, seqX_ret, seqX_none, AX_skip, AX_ret, AX_exit, endX_cnd, endX_normal, endX_ret, endX_none, res_nil, res_tmp, res_cell, cons_some, cell_some, retX_some, ret_one, ret_nil, ret_two, call_fn, Option.map_some, Option.map_none, Option.bind_some, ↓reduceIte, Nat.reduceEqDiff, reduceCtorEq, ↓cnd_true, ↓cnd_false, Bool.not_true, Bool.not_false, decide_true, decide_false, b_tf, b_ft, Nat.left_eq_add, Nat.add_eq_left, eq_self, bne_self_eq_false]
    · have e3 : decide ((200 : Int) < (xs.length : Int)) = true := by simp; omega
      simp only [c6, U30, u31, e3, hl, s_seq, s_region, s_op, s_nil, s_grd, grd_t, grd_f, grd_u, s_cond, condX_bool, s_block, blockX_normal, blockX_exit, blockX_ret, blockX_cnd, blockX_none, o_mv, o_bin, o_un, o_pick, pick_bool, o_call, o_extract, ext_tuple, o_eq, o_toInt, int_int, o_field, field_agg, o_fieldA, fieldA_ptr, o_len, len_slice, len_nils, len_str, Nat.add_assoc, o_lenC, o_minmax, o_idxASl, idxASl_slice, new_obj, new_next, set_obj, set_next, noH_obj, noH_next, load_ptr, loadX_cells, apart_one, apart_agg, apart_all, store_ptr, storeX_cells, put_nil, put_cons, cells_agg, cells_int, cells_bool, cells_str, cells_slice, cells_nils, cells_ptr, tup_agg, tup_int, tup_bool, tup_str, tup_slice, tup_nils, tup_ptr, o_box, box_ok, fill_nil, fill_cons, s_draw, stepD_some, d_still, d_nil, ok_01, ok_12, ok_23, ok_02, ok_13, ok_03, okAt_some, rdOk_load, beqO_some, beq_same, all_nil, all_cons, if_true', eff_mv, eff_pick, eff_load, eff_bin, eff_eq, eff_un, eff_toInt, eff_call, eff_extract, eff_fieldA, eff_field, eff_idxASl, eff_len, eff_minmax, eff_build, eff_slc, eff_append, eff_new, eff_box, eff_store, eff_buildS, eff_nilck, eff_idxAArr, eff_idxArr, eff_idxStr, eff_slcStr, eff_slcArr, eff_mkFn, eff_idS, eff_bToS, eff_sToB, eff_mkS, eff_copy, eff_clearS, eff_mkIface, eff_lenC, or_self, imp_self, eq_self, d_op, d_rd, d_gt, d_gf, d_nt, d_nf, d_nu, aop_load, ans_some, cell_some, List.length_cons, List.length_nil, List.take_succ_cons, List.take_zero, List.drop_zero, List.drop_succ_cons, List.set_cons_zero, List.set_cons_succ, List.mem_cons, List.not_mem_nil, Nat.reduceAdd, Nat.reduceMul, Nat.reduceLeDiff, Int.reduceEq, Int.reduceLT, Int.reduceLE, Int.reduceAdd, Int.reduceSub, Int.reduceMul, Nat.zero_add, Nat.add_zero, Option.some.injEq, forall_eq_or_imp, forall_eq, or_false, and_self, false_imp_iff, implies_true, o_new, o_load, o_store, o_build, o_slc, o_append, o_buildS, buildX_some, o_nilck, nilck_ptr, nilck_fn, e_nilp0, e_nilp1, e_nilp2, e_nils0, e_nils1, o_mkFn, o_mkS, o_copy, o_clearS, clrX_some, o_idxAArr, idxAArr_ptr, o_idxArr, idxArr_agg, o_idxStr, idxStr_str, o_slcStr, slcStr_str, o_slcArr, o_mkIface, Nat.mul_one, stepO_some, stepO_cnd, stepO_none, setd_some, setd_none, set_get, ev_tmp, ev_con, init_get, List.getD_cons_zero, List.getD_cons_succ, List.map_cons, List.map_nil, List.append_nil, List.nil_append, List.cons_append, List.getElem?_cons_zero, List.getElem?_cons_succ, b_eql, b_neq, b_lss, b_leq, b_gtr, b_geq, b_add, b_sub, b_mul, b_quo, b_rem, u_not, u_neg, m_max, m_min, e_int, neg_f, neg_t, eqX_some, fldX_some, e_fld, e_fend, e_bool, e_str, Bool.and_true, beq_self_eq_true, vX_some, vX_none, vX_cnd, hX_some, hX_none, outX_some, outX_none, outX_cnd, seqX_cnd, seqX_normal, seqX_exit, seqX_ret, seqX_none, AX_skip, AX_ret, AX_exit, endX_cnd, endX_normal, endX_ret, endX_none, res_nil, res_tmp, res_cell, cons_some, cell_some, retX_some, ret_one, ret_nil, ret_two, call_fn, Option.map_some, Option.map_none, Option.bind_some, ↓reduceIte, Nat.reduceEqDiff, reduceCtorEq, ↓cnd_true, ↓cnd_false, Bool.not_true, Bool.not_false, decide_true, decide_false, b_tf, b_ft, Nat.left_eq_add, Nat.add_eq_left, eq_self, bne_self_eq_false]
  · have u31 := U31_2 n hn H
    simp only [c6, U30, u31, hl, s_seq, s_region, s_op, s_nil, s_grd, grd_t, grd_f, grd_u, s_cond, condX_bool, s_block, blockX_normal, blockX_exit, blockX_ret, blockX_cnd, blockX_none, o_mv, o_bin, o_un, o_pick, pick_bool, o_call, o_extract, ext_tuple, o_eq, o_toInt, int_int, o_field, field_agg, o_fieldA, fieldA_ptr, o_len, len_slice, len_nils, len_str, Nat.add_assoc, o_lenC, o_minmax, o_idxASl, idxASl_slice, new_obj, new_next, set_obj, set_next, noH_obj, noH_next, load_ptr, loadX_cells, apart_one, apart_agg, apart_all, store_ptr, storeX_cells, put_nil, put_cons, cells_agg, cells_int, cells_bool, cells_str, cells_slice, cells_nils, cells_ptr, tup_agg, tup_int, tup_bool, tup_str, tup_slice, tup_nils, tup_ptr, o_box, box_ok, fill_nil, fill_cons, s_draw, stepD_some, d_still, d_nil, ok_01, ok_12, ok_23, ok_02, ok_13, ok_03, okAt_some, rdOk_load, beqO_some, beq_same, all_nil, all_cons, if_true', eff_mv, eff_pick, eff_load, eff_bin, eff_eq, eff_un, eff_toInt, eff_call, eff_extract, eff_fieldA, eff_field, eff_idxASl, eff_len, eff_minmax, eff_build, eff_slc, eff_append, eff_new, eff_box, eff_store, eff_buildS, eff_nilck, eff_idxAArr, eff_idxArr, eff_idxStr, eff_slcStr, eff_slcArr, eff_mkFn, eff_idS, eff_bToS, eff_sToB, eff_mkS, eff_copy, eff_clearS, eff_mkIface, eff_lenC, or_self, imp_self, eq_self, d_op, d_rd, d_gt, d_gf, d_nt, d_nf, d_nu, aop_load, ans_some, cell_some, List.length_cons, List.length_nil, List.take_succ_cons, List.take_zero, List.drop_zero, List.drop_succ_cons, List.set_cons_zero, List.set_cons_succ, List.mem_cons, List.not_mem_nil, Nat.reduceAdd, Nat.reduceMul, Nat.reduceLeDiff, Int.reduceEq, Int.reduceLT, Int.reduceLE, Int.reduceAdd, Int.reduceSub, Int.reduceMul, Nat.zero_add, Nat.add_zero, Option.some.injEq, forall_eq_or_imp, forall_eq, or_false, and_self, false_imp_iff, implies_true, o_new, o_load, o_store, o_build, o_slc, o_append, o_buildS, buildX_some, o_nilck, nilck_ptr, nilck_fn, e_nilp0, e_nilp1, e_nilp2, e_nils0, e_nils1, o_mkFn, o_mkS, o_copy, o_clearS, clrX_some, o_idxAArr, idxAArr_ptr, o_idxArr, idxArr_agg, o_idxStr, idxStr_str, o_slcStr, slcStr_str, o_slcArr, o_mkIface, Nat.mul_one, stepO_some, stepO_cnd, stepO_none, setd_some, setd_none, set_get, ev_tmp, ev_con, init_get, List.getD_cons_zero, List.getD_cons_succ, List.map_cons, List.map_nil, List.append_nil, List.nil_append, List.cons_append, List.getElem?_cons_zero, List.getElem?_cons_succ, b_eql, b_neq, b_lss, b_leq, b_gtr, b_geq, b_add, b_sub, b_mul, b_quo, b_rem, u_not, u_neg, m_max, m_min, e_int, neg_f, neg_t, eqX_some, fldX_some, e_fld, e_fend, e_bool, e_str, Bool.and_true, beq_self_eq_true, vX_some, vX_none, vX_cnd, hX_some, hX_none, outX_some, outX_none, outX_cnd, seqX_cnd, seqX_normal, seqX_exit, seqX_ret, seqX_none, AX_skip, AX_ret, AX_exit, endX_cnd, endX_normal, endX_ret, endX_none, res_nil, res_tmp, res_cell, cons_some, cell_some, retX_some, ret_one, ret_nil, ret_two, call_fn, Option.map_some, Option.map_none, Option.bind_some, ↓reduceIte, Nat.reduceEqDiff, reduceCtorEq, ↓cnd_true, ↓cnd_false, Bool.not_true, Bool.not_false, decide_true, decide_false, b_tf, b_ft, Nat.left_eq_add, Nat.add_eq_left, eq_self, bne_self_eq_false]

theorem cells5 : Try.prog.cellsOf 5 = 1 := by kernel_rfl
theorem law6 (H : AHeap) (args : List AVal) (dats : List Dat) (h : AArgs Try.prog H [3, 53, 67] args dats) : ∃ k H', acall A k 6 args H = some (.bool true, H') := by
  obtain ⟨v0, r, d0, ds, rfl, rfl, h0, h⟩ := args_cons h
  obtain ⟨v1, r, d1, ds, rfl, rfl, h1, h⟩ := args_cons h
  obtain ⟨v2, r, d2, ds, rfl, rfl, h2, h⟩ := args_cons h
  obtain rfl := args_nil h
  obtain ⟨a, rfl, _⟩ := arg_int Try.underlying3 h0
  obtain ⟨xs, hs, hn, _⟩ := arg_ints Try.underlying53 Try.underlying3 cells3 h1
  obtain ⟨ys, hs2, hn2, _, _, hy⟩ := arg_ints Try.underlying67 Try.underlying5 cells5 h2
  obtain ⟨H', hr⟩ := run6 a xs ys v1 v2 H hs hn hs2 hn2 (fun y h => hy y h)
  obtain ⟨k, hk⟩ := AC_iff.1 hr
  exact ⟨k, H', hk⟩

end Go.Proofs.Ytjbmmbmbdlpihaa.Qu
