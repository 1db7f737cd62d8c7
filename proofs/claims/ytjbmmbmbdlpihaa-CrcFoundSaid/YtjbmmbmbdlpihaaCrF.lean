/- The law of the bytes found: bytes changed within four that follow one another have another sum. -/
import Derived.Test.YtjbmmbmbdlpihaaCrAll
set_option maxRecDepth 100000
set_option linter.unusedSimpArgs false
set_option linter.unusedVariables false
set_option maxHeartbeats 2000000
namespace Go.Proofs.Ytjbmmbmbdlpihaa.Cr
open Go Go.Proofs.Ytjbmmbmbdlpihaa.Am CrFns

/-! ### Nothing but nought is halved to nought -/
theorem half_top (r : BitVec 32) : (half r).getLsbD 31 = r.getLsbD 0 := by
  rw [half_is]
  split
  · rename_i h
    rw [BitVec.getLsbD_xor, BitVec.getLsbD_ushiftRight, h, BitVec.getLsbD_of_ge r 32 (by decide)]
    rfl
  · rename_i h
    rw [BitVec.getLsbD_ushiftRight, BitVec.getLsbD_of_ge r 32 (by decide)]
    rw [Bool.not_eq_true] at h
    rw [h]

theorem half_none {r : BitVec 32} (h : half r = 0#32) : r = 0#32 := by
  have h0 : r.getLsbD 0 = false := by
    rw [← half_top, h]
    rfl
  rw [half_even r h0] at h
  apply BitVec.eq_of_getLsbD_eq
  intro i hi
  cases i with
  | zero => rw [h0]; rfl
  | succ i =>
    have := congrArg (fun x => x.getLsbD i) h
    simp only [BitVec.getLsbD_ushiftRight, Nat.add_comm 1 i] at this
    rw [this]
    simp

theorem Z_none {r : BitVec 32} (h : Z r = 0#32) : r = 0#32 := half_none (half_none (half_none (half_none (half_none (half_none (half_none (half_none h)))))))

theorem itZ_none : ∀ (n : Nat) {r : BitVec 32}, itZ n r = 0#32 → r = 0#32
  | 0, r, h => h
  | n + 1, r, h => Z_none (itZ_none n h)

theorem Z_up (y : BitVec 32) (n : Nat) (hn : n ≤ 16) (h : ∀ i, 8 ≤ i → y.getLsbD i = false) : Z (y <<< (n + 8)) = y <<< n := by
  have c1 : ∀ i, i < 4 → (y <<< (n + 8)).getLsbD i = false := by
    intro i hi
    simp only [BitVec.getLsbD_shiftLeft]
    have : i < n + 8 := by omega
    simp [this]
  have c2 : ∀ i, i < 4 → ((y <<< (n + 8)) >>> 4).getLsbD i = false := by
    intro i hi
    simp only [BitVec.getLsbD_ushiftRight, BitVec.getLsbD_shiftLeft]
    have : 4 + i < n + 8 := by omega
    simp [this]
  rw [Z_split, half4_high _ c1, half4_high _ c2]
  apply BitVec.eq_of_getLsbD_eq
  intro i hi
  simp only [BitVec.getLsbD_ushiftRight, BitVec.getLsbD_shiftLeft]
  by_cases h1 : 4 + (4 + i) < 32
  · have e : 4 + (4 + i) - (n + 8) = i - n := by omega
    have e2 : decide (4 + (4 + i) < n + 8) = decide (i < n) := by rw [decide_eq_decide]; omega
    simp only [h1, hi, decide_true, Bool.true_and, e, e2]
  · have : y.getLsbD (i - n) = false := h _ (by omega)
    simp [h1, this]

/-- A word's bytes. -/
def part (x : BitVec 32) (i : Nat) : UInt8 := UInt8.ofNat (x >>> (8 * i)).toNat
def wide (c : UInt8) : BitVec 32 := BitVec.ofNat 32 c.toNat

theorem wide_high (c : UInt8) {i : Nat} (h : 8 ≤ i) : (wide c).getLsbD i = false := by
  unfold wide
  rw [BitVec.getLsbD_ofNat]
  have : c.toNat.testBit i = false := Nat.testBit_lt_two_pow (Nat.lt_of_lt_of_le c.toNat_lt (Nat.pow_le_pow_right (by decide) h))
  rw [this, Bool.and_false]

theorem wide_part (x : BitVec 32) (k : Nat) {i : Nat} (hi : i < 8) (hk : k < 4) : (wide (part x k)).getLsbD i = x.getLsbD (8 * k + i) := by
  unfold wide part
  have h2 : (UInt8.ofNat (x >>> (8 * k)).toNat).toNat = (x >>> (8 * k)).toNat % 2 ^ 8 := by simp
  have hi' : i < 32 := by omega
  rw [BitVec.getLsbD_ofNat, h2, Nat.testBit_mod_two_pow]
  simp only [hi, hi', decide_true, Bool.true_and]
  rw [BitVec.testBit_toNat, BitVec.getLsbD_ushiftRight]

theorem word_is (x : BitVec 32) : x = ((wide (part x 0) ^^^ wide (part x 1) <<< 8) ^^^ wide (part x 2) <<< 16) ^^^ wide (part x 3) <<< 24 := by
  apply BitVec.eq_of_getLsbD_eq
  intro i hi
  simp only [BitVec.getLsbD_xor, BitVec.getLsbD_shiftLeft, hi, decide_true, Bool.true_and]
  rcases Nat.lt_or_ge i 8 with h | h
  · rw [wide_part x 0 h (by decide)]
    have h1 : i < 16 := by omega
    have h2 : i < 24 := by omega
    simp [h, h1, h2]
  rcases Nat.lt_or_ge i 16 with h1 | h1
  · rw [wide_high _ h, wide_part x 1 (show i - 8 < 8 by omega) (by decide)]
    have h0 : ¬ i < 8 := by omega
    have h2 : i < 24 := by omega
    simp [h0, h1, h2]
    congr 1
    omega
  rcases Nat.lt_or_ge i 24 with h2 | h2
  · rw [wide_high _ h, wide_high _ (show 8 ≤ i - 8 by omega), wide_part x 2 (show i - 16 < 8 by omega) (by decide)]
    have h0 : ¬ i < 16 := by omega
    simp [h0, h2]
    congr 1
    omega
  · rw [wide_high _ h, wide_high _ (show 8 ≤ i - 8 by omega), wide_high _ (show 8 ≤ i - 16 by omega), wide_part x 3 (show i - 24 < 8 by omega) (by decide)]
    have h0 : ¬ i < 24 := by omega
    simp [h0]
    congr 1
    omega

theorem four_is (x : BitVec 32) : Z (Z (Z (Z (wide (part x 0)) ^^^ wide (part x 1)) ^^^ wide (part x 2)) ^^^ wide (part x 3)) = itZ 4 x := by
  have y1 : ∀ c, Z (wide c <<< 8) = wide c := fun c => by
    have := Z_up (wide c) 0 (by decide) (fun i hi => wide_high c hi)
    rw [Nat.zero_add] at this
    rw [this, BitVec.shiftLeft_zero]
  have y2 : ∀ c, Z (wide c <<< 16) = wide c <<< 8 := fun c => Z_up (wide c) 8 (by decide) (fun i hi => wide_high c hi)
  have y3 : ∀ c, Z (wide c <<< 24) = wide c <<< 16 := fun c => Z_up (wide c) 16 (by decide) (fun i hi => wide_high c hi)
  have e : itZ 4 x = Z (Z (Z (Z x))) := rfl
  rw [e]
  conv => rhs; rw [word_is x]
  simp only [Z_low, y1, y2, y3]

/-! ### Four bytes changed -/
def chg (s : List UInt8) (at' : Nat) (x : BitVec 32) : Nat → List UInt8
  | 0 => s
  | i + 1 => (chg s at' x i).set (at' + i) ((chg s at' x i).getD (at' + i) 0 ^^^ part x i)

theorem chg_len (s : List UInt8) (at' : Nat) (x : BitVec 32) : ∀ i, (chg s at' x i).length = s.length
  | 0 => rfl
  | i + 1 => by simp only [chg, List.length_set, chg_len s at' x i]

theorem chg_four (p q : List UInt8) (a b c d : UInt8) (x : BitVec 32) : chg (p ++ a :: b :: c :: d :: q) p.length x 4 = p ++ (a ^^^ part x 0) :: (b ^^^ part x 1) :: (c ^^^ part x 2) :: (d ^^^ part x 3) :: q := by
  simp [chg, List.getD_eq_getElem?_getD, List.getElem?_append_right, List.set_append_right]

theorem wide_xor (a b : UInt8) : wide (a ^^^ b) = wide a ^^^ wide b := by
  unfold wide
  apply BitVec.eq_of_toNat_eq
  have ha := a.toNat_lt
  have hb := b.toNat_lt
  have hx : (a ^^^ b).toNat = a.toNat ^^^ b.toNat := UInt8.toNat_xor _ _
  rw [BitVec.toNat_xor, BitVec.toNat_ofNat, BitVec.toNat_ofNat, BitVec.toNat_ofNat, hx, Nat.mod_eq_of_lt (a := a.toNat) (by omega), Nat.mod_eq_of_lt (a := b.toNat) (by omega)]
  exact Nat.mod_eq_of_lt (Nat.lt_of_lt_of_le (Nat.xor_lt_two_pow (n := 8) ha hb) (by decide))

theorem byte_xor (r : BitVec 32) (a b : UInt8) (d : BitVec 32) : byte (r ^^^ d) (a ^^^ b) = byte r a ^^^ Z (d ^^^ wide b) := by
  unfold byte
  rw [← Z_low]
  congr 1
  have := wide_xor a b
  unfold wide at this ⊢
  rw [this]
  generalize BitVec.ofNat 32 a.toNat = A
  generalize BitVec.ofNat 32 b.toNat = B
  rw [BitVec.xor_assoc, ← BitVec.xor_assoc d A, BitVec.xor_comm d A, BitVec.xor_assoc A, ← BitVec.xor_assoc]

theorem found (p q : List UInt8) (a b c d : UInt8) (x : BitVec 32) : more 0#32 (chg (p ++ a :: b :: c :: d :: q) p.length x 4) = more 0#32 (p ++ a :: b :: c :: d :: q) ↔ x = 0#32 := by
  rw [chg_four]
  simp only [more, List.foldl_append, List.foldl_cons]
  generalize p.foldl byte (0#32 ^^^ 4294967295#32) = R
  have e1 : byte R (a ^^^ part x 0) = byte R a ^^^ Z (wide (part x 0)) := by
    have := byte_xor R a (part x 0) 0#32
    rw [BitVec.xor_zero, BitVec.zero_xor] at this
    exact this
  rw [e1, byte_xor, byte_xor, byte_xor, four_is, fold_low]
  constructor
  · intro h
    have h1 : itZ q.length (itZ 4 x) = 0#32 := by
      generalize q.foldl byte (byte (byte (byte (byte R a) b) c) d) = W at h
      have h2 := congrArg (fun y => y ^^^ 4294967295#32) h
      simp only [xor_back] at h2
      have h3 := congrArg (fun y => W ^^^ y) h2
      simp only [BitVec.xor_self, ← BitVec.xor_assoc, BitVec.zero_xor] at h3
      exact h3
    exact itZ_none _ (itZ_none _ h1)
  · rintro rfl
    rw [(itZ_lin 4).zero, (itZ_lin q.length).zero, BitVec.xor_zero]

theorem found_at (s : List UInt8) (at' : Nat) (h : at' + 4 ≤ s.length) (x : BitVec 32) : decide (more 0#32 (chg s at' x 4) = more 0#32 s) = decide (x = 0#32) := by
  rw [decide_eq_decide]
  have e : s = s.take at' ++ s[at'] :: s[at' + 1] :: s[at' + 2] :: s[at' + 3] :: s.drop (at' + 4) := by
    rw [← List.drop_eq_getElem_cons, ← List.drop_eq_getElem_cons, ← List.drop_eq_getElem_cons, ← List.drop_eq_getElem_cons, List.take_append_drop]
  have hl : (s.take at').length = at' := by rw [List.length_take]; omega
  have := found (s.take at') (s.drop (at' + 4)) s[at'] s[at' + 1] s[at' + 2] s[at' + 3] x
  rw [← e, hl] at this
  exact this

theorem to8 (y : BitVec 32) (H : AHeap) : intX .u8 H (u y) = some (by8 (UInt8.ofNat y.toNat), H) := by
  simp only [u, int_int, by8]
  congr 3
theorem x8 (a b : UInt8) : abin .xor (by8 a) (by8 b) = some (by8 (a ^^^ b)) := by
  have hb := b_int .xor .u8 (a.toNat : Int) (b.toNat : Int) (by decide) (by decide)
  have ha := a.toNat_lt
  have hb' := b.toNat_lt
  have e1 : ∀ c : UInt8, BitVec.ofInt 8 (c.toNat : Int) = c.toBitVec := fun c => by
    apply BitVec.eq_of_toNat_eq
    have := c.toNat_lt
    simp
  have : abin .xor (by8 a) (by8 b) = some (.int .u8 (IntKind.u8.wrap ((BitVec.ofInt 8 (a.toNat : Int) ^^^ BitVec.ofInt 8 (b.toNat : Int)).toNat : Int))) := hb.trans rfl
  rw [this, e1, e1]
  have h3 : (a.toBitVec ^^^ b.toBitVec).toNat = (a ^^^ b).toNat := rfl
  rw [h3]
  have hx := (a ^^^ b).toNat_lt
  have w : IntKind.u8.wrap ((a ^^^ b).toNat : Int) = ((a ^^^ b).toNat : Int) := by
    generalize (a ^^^ b).toNat = k at hx ⊢
    simp [IntKind.wrap, IntKind.signed, IntKind.bits]
    omega
  rw [w]
  rfl
theorem c_8 (c : UInt8) : AVal.cells (by8 c) = [by8 c] := hid rfl
theorem t_8 (c : UInt8) : AVal.tup (by8 c) = false := hid rfl
theorem get8 {L : List UInt8} {i : Nat} (h : i < L.length) : (L.map by8)[i]? = some (by8 (L.getD i 0)) := by
  rw [List.getElem?_map, List.getElem?_eq_getElem h, List.getD_eq_getElem?_getD, List.getElem?_eq_getElem h]
  rfl

def b9 : ACode := (.seq (.region [⟨(some 28), (.bin .lss (.tmp 27) (.con (.int .i64 4))), none, none⟩]) (.seq (.cond (.tmp 28) .skip (.exit 0)) (.seq (.block 1 (.seq (.region [⟨(some 29), (.mv (.tmp 27)), none, none⟩, ⟨(some 8), (.mv (.tmp 29)), none, none⟩]) (.draw [⟨(some 30), (.mv (.tmp 7)), none, none⟩, ⟨(some 31), (.mv (.tmp 1)), none, none⟩, ⟨(some 32), (.mv (.tmp 8)), none, none⟩, ⟨(some 33), (.bin .add (.tmp 31) (.tmp 32)), none, none⟩, ⟨(some 34), (.idxASl 1 (.tmp 30) (.tmp 33)), none, none⟩, ⟨(some 35), (.load false 1 (.tmp 34)), none, none⟩, ⟨(some 36), (.mv (.tmp 2)), none, none⟩, ⟨(some 37), (.mv (.tmp 8)), none, none⟩, ⟨(some 38), (.bin .mul (.con (.int .i64 8)) (.tmp 37)), none, none⟩, ⟨(some 39), (.bin .shr (.tmp 36) (.tmp 38)), none, none⟩, ⟨(some 40), (.toInt .u8 (.tmp 39)), none, none⟩, ⟨(some 41), (.bin .xor (.tmp 35) (.tmp 40)), none, none⟩, ⟨(some 42), (.idxASl 1 (.tmp 30) (.tmp 33)), none, none⟩, ⟨none, (.store 1 (.tmp 42) (.tmp 41)), none, none⟩]))) (.region [⟨(some 43), (.bin .add (.tmp 27) (.con (.int .i64 1))), none, none⟩, ⟨(some 27), (.mv (.tmp 43)), none, none⟩]))))

theorem loop9 {s : List UInt8} {at' q : Nat} {x : BitVec 32} (hat : at' + 4 ≤ s.length) (hs : s.length ≤ 4096) {env : Env} {H : AHeap} (h0 : env 0 = .str s) (h1 : env 1 = .int .i64 (at' : Int)) (h2 : env 2 = u x) (h7 : env 7 = .slice q 0 s.length s.length (some 1)) (h27 : env 27 = .int .i64 0)
    (ho : H.obj q = some (.cells (s.map by8) true)) :
    Outs (AX A (.loop b9) env H) fun e env' H' => e = .exit 0 ∧ env' 0 = .str s ∧ env' 2 = u x ∧ env' 7 = .slice q 0 s.length s.length (some 1) ∧ H'.obj q = some (.cells ((chg s at' x 4).map by8) true) := by
  refine loop_ends (I := fun (j : Nat) env' H' => j ≤ 4 ∧ env' 0 = .str s ∧ env' 1 = .int .i64 (at' : Int) ∧ env' 2 = u x ∧ env' 7 = .slice q 0 s.length s.length (some 1) ∧ env' 27 = .int .i64 (j : Int) ∧ H'.obj q = some (.cells ((chg s at' x j).map by8) true)) (fun j => 4 - j) ?_ 0 env H ⟨by decide, h0, h1, h2, h7, h27, ho⟩
  rintro j env' H' ⟨hj, h0, h1, h2, h7, h27, ho⟩
  by_cases hlt : j < 4
  · have e1 : decide ((j : Int) < 4) = true := by simp; omega
    have w1 : IntKind.i64.wrap ((j : Int) + 1) = ((j + 1 : Nat) : Int) := by rw [wrap_i64]; omega
    have w2 : IntKind.i64.wrap ((at' : Int) + (j : Int)) = ((at' + j : Nat) : Int) := by rw [wrap_i64]; omega
    have w3 : IntKind.i64.wrap (8 * (j : Int)) = ((8 * j : Nat) : Int) := by rw [wrap_i64]; omega
    have ha : aidx s.length (.int .i64 ((at' + j : Nat) : Int)) = some (at' + j) := by simp only [aidx]; rw [if_pos ⟨by omega, by omega⟩]; rfl
    have hl := chg_len s at' x j
    have hg := get8 (L := chg s at' x j) (i := at' + j) (by omega)
    have st := store_one H' q (at' + j) (by8 ((chg s at' x j).getD (at' + j) 0 ^^^ part x j)) ((chg s at' x j).map by8) (by rw [List.length_map]; omega)
    have hp : UInt8.ofNat (x >>> (8 * j)).toNat = part x j := rfl
    simp only [b9, h1, h2, h7, h27, e1, w1, w2, w3, ha, ho, hg, x_shr, to8, hp, x8, c_8, t_8, st, s_seq, s_region, s_op, s_nil, s_grd, grd_t, grd_f, grd_u, s_cond, condX_bool, s_block, blockX_normal, blockX_exit, blockX_ret, blockX_cnd, blockX_none, o_mv, o_bin, o_un, o_pick, pick_bool, o_call, o_extract, ext_tuple, o_eq, o_toInt, int_int, o_field, field_agg, o_fieldA, fieldA_ptr, o_len, len_slice, len_nils, len_str, Nat.add_assoc, o_lenC, o_minmax, o_idxASl, idxASl_slice, new_obj, new_next, set_obj, set_next, noH_obj, noH_next, load_ptr, loadX_cells, apart_one, apart_agg, apart_all, store_ptr, storeX_cells, put_nil, put_cons, lput_whole, cells_agg, cells_int, cells_bool, cells_str, cells_slice, cells_nils, cells_ptr, tup_agg, tup_int, tup_bool, tup_str, tup_slice, tup_nils, tup_ptr, o_box, box_ok, fill_nil, fill_cons, s_draw, stepD_some, d_still, d_nil, ok_01, ok_12, ok_23, ok_02, ok_13, ok_03, okAt_some, rdOk_load, beqO_some, beq_same, all_nil, all_cons, if_true', eff_mv, eff_pick, eff_load, eff_bin, eff_eq, eff_un, eff_toInt, eff_call, eff_extract, eff_fieldA, eff_field, eff_idxASl, eff_len, eff_minmax, eff_build, eff_slc, eff_append, eff_new, eff_box, eff_store, eff_buildS, eff_nilck, eff_idxAArr, eff_idxArr, eff_idxStr, eff_slcStr, eff_slcArr, eff_mkFn, eff_idS, eff_bToS, eff_sToB, eff_mkS, eff_copy, eff_clearS, eff_mkIface, eff_lenC, or_self, imp_self, eq_self, d_op, d_rd, d_gt, d_gf, d_nt, d_nf, d_nu, aop_load, ans_some, cell_some, List.length_cons, List.length_nil, List.take_succ_cons, List.take_zero, List.drop_zero, List.drop_succ_cons, List.set_cons_zero, List.set_cons_succ, List.mem_cons, List.not_mem_nil, Nat.reduceAdd, Nat.reduceMul, Nat.reduceLeDiff, Int.reduceEq, Int.reduceLT, Int.reduceLE, Int.reduceAdd, Int.reduceSub, Int.reduceMul, Nat.zero_add, Nat.add_zero, Option.some.injEq, forall_eq_or_imp, forall_eq, or_false, and_self, false_imp_iff, implies_true, o_new, o_load, o_store, o_build, o_slc, o_append, o_buildS, buildX_some, o_sToB, sToB_str, o_idS', idS_str, o_bToS, o_nilck, nilck_ptr, nilck_fn, e_nilp0, e_nilp1, e_nilp2, e_nils0, e_nils1, o_mkFn, o_mkS, o_copy, o_clearS, clrX_some, o_idxAArr, idxAArr_ptr, o_idxArr, idxArr_agg, o_idxStr, idxStr_str, o_slcStr, slcStr_str, o_slcArr, o_mkIface, Nat.mul_one, stepO_some, stepO_cnd, stepO_none, setd_some, setd_none, set_get, ev_tmp, ev_con, init_get, List.getD_cons_zero, List.getD_cons_succ, List.map_cons, List.map_nil, List.append_nil, List.nil_append, List.cons_append, List.getElem?_cons_zero, List.getElem?_cons_succ, b_eql, b_neq, b_lss, b_leq, b_gtr, b_geq, b_add, b_sub, b_mul, b_quo, b_rem, u_not, u_neg, m_max, m_min, e_int, neg_f, neg_t, eqX_some, fldX_some, e_fld, e_fend, e_bool, e_str, Bool.and_true, beq_self_eq_true, vX_some, vX_none, vX_cnd, hX_some, hX_none, outX_some, outX_none, outX_cnd, seqX_cnd, seqX_normal, seqX_exit, seqX_ret, seqX_none, AX_skip, AX_ret, AX_exit, endX_cnd, endX_normal, endX_ret, endX_none, res_nil, res_tmp, res_cell, cons_some, cell_some, retX_some, ret_one, ret_nil, ret_two, call_fn, Option.map_some, Option.map_none, Option.bind_some, ↓reduceIte, Nat.reduceEqDiff, reduceCtorEq, ↓cnd_true, ↓cnd_false, Bool.not_true, Bool.not_false, decide_true, decide_false, b_tf, b_ft, Nat.left_eq_add, Nat.add_eq_left, eq_self, bne_self_eq_false]
    rw [outs_some]
    refine .inl ⟨rfl, j + 1, by omega, by omega, by simp [Env.set, h0], by simp [Env.set, h1], by simp [Env.set, h2], by simp [Env.set, h7], by simp [Env.set], ?_⟩
    simp [AHeap.set, chg, List.map_set]
  · have e1 : decide ((j : Int) < 4) = false := by simp; omega
    have : j = 4 := by omega
    subst this
    simp only [b9, h27, e1, s_seq, s_region, s_op, s_nil, s_grd, grd_t, grd_f, grd_u, s_cond, condX_bool, s_block, blockX_normal, blockX_exit, blockX_ret, blockX_cnd, blockX_none, o_mv, o_bin, o_un, o_pick, pick_bool, o_call, o_extract, ext_tuple, o_eq, o_toInt, int_int, o_field, field_agg, o_fieldA, fieldA_ptr, o_len, len_slice, len_nils, len_str, Nat.add_assoc, o_lenC, o_minmax, o_idxASl, idxASl_slice, new_obj, new_next, set_obj, set_next, noH_obj, noH_next, load_ptr, loadX_cells, apart_one, apart_agg, apart_all, store_ptr, storeX_cells, put_nil, put_cons, lput_whole, cells_agg, cells_int, cells_bool, cells_str, cells_slice, cells_nils, cells_ptr, tup_agg, tup_int, tup_bool, tup_str, tup_slice, tup_nils, tup_ptr, o_box, box_ok, fill_nil, fill_cons, s_draw, stepD_some, d_still, d_nil, ok_01, ok_12, ok_23, ok_02, ok_13, ok_03, okAt_some, rdOk_load, beqO_some, beq_same, all_nil, all_cons, if_true', eff_mv, eff_pick, eff_load, eff_bin, eff_eq, eff_un, eff_toInt, eff_call, eff_extract, eff_fieldA, eff_field, eff_idxASl, eff_len, eff_minmax, eff_build, eff_slc, eff_append, eff_new, eff_box, eff_store, eff_buildS, eff_nilck, eff_idxAArr, eff_idxArr, eff_idxStr, eff_slcStr, eff_slcArr, eff_mkFn, eff_idS, eff_bToS, eff_sToB, eff_mkS, eff_copy, eff_clearS, eff_mkIface, eff_lenC, or_self, imp_self, eq_self, d_op, d_rd, d_gt, d_gf, d_nt, d_nf, d_nu, aop_load, ans_some, cell_some, List.length_cons, List.length_nil, List.take_succ_cons, List.take_zero, List.drop_zero, List.drop_succ_cons, List.set_cons_zero, List.set_cons_succ, List.mem_cons, List.not_mem_nil, Nat.reduceAdd, Nat.reduceMul, Nat.reduceLeDiff, Int.reduceEq, Int.reduceLT, Int.reduceLE, Int.reduceAdd, Int.reduceSub, Int.reduceMul, Nat.zero_add, Nat.add_zero, Option.some.injEq, forall_eq_or_imp, forall_eq, or_false, and_self, false_imp_iff, implies_true, o_new, o_load, o_store, o_build, o_slc, o_append, o_buildS, buildX_some, o_sToB, sToB_str, o_idS', idS_str, o_bToS, o_nilck, nilck_ptr, nilck_fn, e_nilp0, e_nilp1, e_nilp2, e_nils0, e_nils1, o_mkFn, o_mkS, o_copy, o_clearS, clrX_some, o_idxAArr, idxAArr_ptr, o_idxArr, idxArr_agg, o_idxStr, idxStr_str, o_slcStr, slcStr_str, o_slcArr, o_mkIface, Nat.mul_one, stepO_some, stepO_cnd, stepO_none, setd_some, setd_none, set_get, ev_tmp, ev_con, init_get, List.getD_cons_zero, List.getD_cons_succ, List.map_cons, List.map_nil, List.append_nil, List.nil_append, List.cons_append, List.getElem?_cons_zero, List.getElem?_cons_succ, b_eql, b_neq, b_lss, b_leq, b_gtr, b_geq, b_add, b_sub, b_mul, b_quo, b_rem, u_not, u_neg, m_max, m_min, e_int, neg_f, neg_t, eqX_some, fldX_some, e_fld, e_fend, e_bool, e_str, Bool.and_true, beq_self_eq_true, vX_some, vX_none, vX_cnd, hX_some, hX_none, outX_some, outX_none, outX_cnd, seqX_cnd, seqX_normal, seqX_exit, seqX_ret, seqX_none, AX_skip, AX_ret, AX_exit, endX_cnd, endX_normal, endX_ret, endX_none, res_nil, res_tmp, res_cell, cons_some, cell_some, retX_some, ret_one, ret_nil, ret_two, call_fn, Option.map_some, Option.map_none, Option.bind_some, ↓reduceIte, Nat.reduceEqDiff, reduceCtorEq, ↓cnd_true, ↓cnd_false, Bool.not_true, Bool.not_false, decide_true, decide_false, b_tf, b_ft, Nat.left_eq_add, Nat.add_eq_left, eq_self, bne_self_eq_false]
    rw [outs_some]
    exact .inr ⟨by simp, rfl, by simp [Env.set, h0], by simp [Env.set, h2], by simp [Env.set, h7], ho⟩

theorem run9 (s : List UInt8) (n : Int) (x : BitVec 32) (H : AHeap) (hn : -9223372036854775808 ≤ n ∧ n ≤ 9223372036854775807) : Ans (AC A 9 [.str s, .int .i64 n, u x] H) (.bool true) := by
  rw [s_fn (A := A) (f := 9) (x := CrFns.c9) rfl rfl rfl]
  by_cases hs : s.length ≤ 4096
  · have e1 : decide ((4096 : Int) < (s.length : Int)) = false := by simp; omega
    by_cases h0 : 0 ≤ n
    · have e2 : decide (n < 0) = false := by simp; omega
      have w : IntKind.i64.wrap ((s.length : Int) - 4) = (s.length : Int) - 4 := by rw [wrap_i64]; omega
      by_cases h4 : n ≤ (s.length : Int) - 4
      · have e3 : decide ((s.length : Int) - 4 < n) = false := by simp; omega
        obtain ⟨at', rfl⟩ : ∃ m : Nat, n = (m : Int) := ⟨n.toNat, by omega⟩
        simp only [c9, U42, e1, e2, e3, w, by8_fun, s_seq, s_region, s_op, s_nil, s_grd, grd_t, grd_f, grd_u, s_cond, condX_bool, s_block, blockX_normal, blockX_exit, blockX_ret, blockX_cnd, blockX_none, o_mv, o_bin, o_un, o_pick, pick_bool, o_call, o_extract, ext_tuple, o_eq, o_toInt, int_int, o_field, field_agg, o_fieldA, fieldA_ptr, o_len, len_slice, len_nils, len_str, Nat.add_assoc, o_lenC, o_minmax, o_idxASl, idxASl_slice, new_obj, new_next, set_obj, set_next, noH_obj, noH_next, load_ptr, loadX_cells, apart_one, apart_agg, apart_all, store_ptr, storeX_cells, put_nil, put_cons, lput_whole, cells_agg, cells_int, cells_bool, cells_str, cells_slice, cells_nils, cells_ptr, tup_agg, tup_int, tup_bool, tup_str, tup_slice, tup_nils, tup_ptr, o_box, box_ok, fill_nil, fill_cons, s_draw, stepD_some, d_still, d_nil, ok_01, ok_12, ok_23, ok_02, ok_13, ok_03, okAt_some, rdOk_load, beqO_some, beq_same, all_nil, all_cons, if_true', eff_mv, eff_pick, eff_load, eff_bin, eff_eq, eff_un, eff_toInt, eff_call, eff_extract, eff_fieldA, eff_field, eff_idxASl, eff_len, eff_minmax, eff_build, eff_slc, eff_append, eff_new, eff_box, eff_store, eff_buildS, eff_nilck, eff_idxAArr, eff_idxArr, eff_idxStr, eff_slcStr, eff_slcArr, eff_mkFn, eff_idS, eff_bToS, eff_sToB, eff_mkS, eff_copy, eff_clearS, eff_mkIface, eff_lenC, or_self, imp_self, eq_self, d_op, d_rd, d_gt, d_gf, d_nt, d_nf, d_nu, aop_load, ans_some, cell_some, List.length_cons, List.length_nil, List.take_succ_cons, List.take_zero, List.drop_zero, List.drop_succ_cons, List.set_cons_zero, List.set_cons_succ, List.mem_cons, List.not_mem_nil, Nat.reduceAdd, Nat.reduceMul, Nat.reduceLeDiff, Int.reduceEq, Int.reduceLT, Int.reduceLE, Int.reduceAdd, Int.reduceSub, Int.reduceMul, Nat.zero_add, Nat.add_zero, Option.some.injEq, forall_eq_or_imp, forall_eq, or_false, and_self, false_imp_iff, implies_true, o_new, o_load, o_store, o_build, o_slc, o_append, o_buildS, buildX_some, o_sToB, sToB_str, o_idS', idS_str, o_bToS, o_nilck, nilck_ptr, nilck_fn, e_nilp0, e_nilp1, e_nilp2, e_nils0, e_nils1, o_mkFn, o_mkS, o_copy, o_clearS, clrX_some, o_idxAArr, idxAArr_ptr, o_idxArr, idxArr_agg, o_idxStr, idxStr_str, o_slcStr, slcStr_str, o_slcArr, o_mkIface, Nat.mul_one, stepO_some, stepO_cnd, stepO_none, setd_some, setd_none, set_get, ev_tmp, ev_con, init_get, List.getD_cons_zero, List.getD_cons_succ, List.map_cons, List.map_nil, List.append_nil, List.nil_append, List.cons_append, List.getElem?_cons_zero, List.getElem?_cons_succ, b_eql, b_neq, b_lss, b_leq, b_gtr, b_geq, b_add, b_sub, b_mul, b_quo, b_rem, u_not, u_neg, m_max, m_min, e_int, neg_f, neg_t, eqX_some, fldX_some, e_fld, e_fend, e_bool, e_str, Bool.and_true, beq_self_eq_true, vX_some, vX_none, vX_cnd, hX_some, hX_none, outX_some, outX_none, outX_cnd, seqX_cnd, seqX_normal, seqX_exit, seqX_ret, seqX_none, AX_skip, AX_ret, AX_exit, endX_cnd, endX_normal, endX_ret, endX_none, res_nil, res_tmp, res_cell, cons_some, cell_some, retX_some, ret_one, ret_nil, ret_two, call_fn, Option.map_some, Option.map_none, Option.bind_some, ↓reduceIte, Nat.reduceEqDiff, reduceCtorEq, ↓cnd_true, ↓cnd_false, Bool.not_true, Bool.not_false, decide_true, decide_false, b_tf, b_ft, Nat.left_eq_add, Nat.add_eq_left, eq_self, bne_self_eq_false]
        repeat (first | refine outs_seq ?_ | refine outs_block ?_ | refine outs_step ?_ | refine outs_stepD ?_ | refine rets_end ?_ | refine ans_end ?_)
        refine (loop9 (s := s) (at' := at') (q := H.next) (x := x) (by omega) hs ?_ ?_ ?_ ?_ ?_ ?_).mono ?_
        · simp [Env.set, ainit]
        · simp [Env.set, ainit]
        · simp [Env.set, ainit]
        · simp [Env.set]
        · simp [Env.set]
        · simp [AHeap.new]
        · rintro e env H' ⟨rfl, h0, h2, h7, ho⟩
          have hl := chg_len s at' x 4
          have hsl : Sl H' 1 (.slice H.next 0 s.length s.length (some 1)) ((chg s at' x 4).map by8) := .inr ⟨H.next, 0, s.length, s.length, some 1, rfl, by simp [hl], .inr ⟨_, true, ho, by simp [hl], by rw [List.drop_zero, Nat.mul_one, List.take_of_length_le (by simp [hl])]⟩⟩
          have hb := bToS_sl hsl
          simp only [outs_some, h0, h2, h7, hb, U43 s (by omega), U43 (chg s at' x 4) (by omega), x_eql, k0, found_at s at' (by omega) x, beq_self_eq_true, s_seq, s_region, s_op, s_nil, s_grd, grd_t, grd_f, grd_u, s_cond, condX_bool, s_block, blockX_normal, blockX_exit, blockX_ret, blockX_cnd, blockX_none, o_mv, o_bin, o_un, o_pick, pick_bool, o_call, o_extract, ext_tuple, o_eq, o_toInt, int_int, o_field, field_agg, o_fieldA, fieldA_ptr, o_len, len_slice, len_nils, len_str, Nat.add_assoc, o_lenC, o_minmax, o_idxASl, idxASl_slice, new_obj, new_next, set_obj, set_next, noH_obj, noH_next, load_ptr, loadX_cells, apart_one, apart_agg, apart_all, store_ptr, storeX_cells, put_nil, put_cons, lput_whole, cells_agg, cells_int, cells_bool, cells_str, cells_slice, cells_nils, cells_ptr, tup_agg, tup_int, tup_bool, tup_str, tup_slice, tup_nils, tup_ptr, o_box, box_ok, fill_nil, fill_cons, s_draw, stepD_some, d_still, d_nil, ok_01, ok_12, ok_23, ok_02, ok_13, ok_03, okAt_some, rdOk_load, beqO_some, beq_same, all_nil, all_cons, if_true', eff_mv, eff_pick, eff_load, eff_bin, eff_eq, eff_un, eff_toInt, eff_call, eff_extract, eff_fieldA, eff_field, eff_idxASl, eff_len, eff_minmax, eff_build, eff_slc, eff_append, eff_new, eff_box, eff_store, eff_buildS, eff_nilck, eff_idxAArr, eff_idxArr, eff_idxStr, eff_slcStr, eff_slcArr, eff_mkFn, eff_idS, eff_bToS, eff_sToB, eff_mkS, eff_copy, eff_clearS, eff_mkIface, eff_lenC, or_self, imp_self, eq_self, d_op, d_rd, d_gt, d_gf, d_nt, d_nf, d_nu, aop_load, ans_some, cell_some, List.length_cons, List.length_nil, List.take_succ_cons, List.take_zero, List.drop_zero, List.drop_succ_cons, List.set_cons_zero, List.set_cons_succ, List.mem_cons, List.not_mem_nil, Nat.reduceAdd, Nat.reduceMul, Nat.reduceLeDiff, Int.reduceEq, Int.reduceLT, Int.reduceLE, Int.reduceAdd, Int.reduceSub, Int.reduceMul, Nat.zero_add, Nat.add_zero, Option.some.injEq, forall_eq_or_imp, forall_eq, or_false, and_self, false_imp_iff, implies_true, o_new, o_load, o_store, o_build, o_slc, o_append, o_buildS, buildX_some, o_sToB, sToB_str, o_idS', idS_str, o_bToS, o_nilck, nilck_ptr, nilck_fn, e_nilp0, e_nilp1, e_nilp2, e_nils0, e_nils1, o_mkFn, o_mkS, o_copy, o_clearS, clrX_some, o_idxAArr, idxAArr_ptr, o_idxArr, idxArr_agg, o_idxStr, idxStr_str, o_slcStr, slcStr_str, o_slcArr, o_mkIface, Nat.mul_one, stepO_some, stepO_cnd, stepO_none, setd_some, setd_none, set_get, ev_tmp, ev_con, init_get, List.getD_cons_zero, List.getD_cons_succ, List.map_cons, List.map_nil, List.append_nil, List.nil_append, List.cons_append, List.getElem?_cons_zero, List.getElem?_cons_succ, b_eql, b_neq, b_lss, b_leq, b_gtr, b_geq, b_add, b_sub, b_mul, b_quo, b_rem, u_not, u_neg, m_max, m_min, e_int, neg_f, neg_t, eqX_some, fldX_some, e_fld, e_fend, e_bool, e_str, Bool.and_true, beq_self_eq_true, vX_some, vX_none, vX_cnd, hX_some, hX_none, outX_some, outX_none, outX_cnd, seqX_cnd, seqX_normal, seqX_exit, seqX_ret, seqX_none, AX_skip, AX_ret, AX_exit, endX_cnd, endX_normal, endX_ret, endX_none, res_nil, res_tmp, res_cell, cons_some, cell_some, retX_some, ret_one, ret_nil, ret_two, call_fn, Option.map_some, Option.map_none, Option.bind_some, ↓reduceIte, Nat.reduceEqDiff, reduceCtorEq, ↓cnd_true, ↓cnd_false, Bool.not_true, Bool.not_false, decide_true, decide_false, b_tf, b_ft, Nat.left_eq_add, Nat.add_eq_left, eq_self, bne_self_eq_false]
      · have e3 : decide ((s.length : Int) - 4 < n) = true := by simp; omega
        simp only [c9, U42, e1, e2, e3, w, s_seq, s_region, s_op, s_nil, s_grd, grd_t, grd_f, grd_u, s_cond, condX_bool, s_block, blockX_normal, blockX_exit, blockX_ret, blockX_cnd, blockX_none, o_mv, o_bin, o_un, o_pick, pick_bool, o_call, o_extract, ext_tuple, o_eq, o_toInt, int_int, o_field, field_agg, o_fieldA, fieldA_ptr, o_len, len_slice, len_nils, len_str, Nat.add_assoc, o_lenC, o_minmax, o_idxASl, idxASl_slice, new_obj, new_next, set_obj, set_next, noH_obj, noH_next, load_ptr, loadX_cells, apart_one, apart_agg, apart_all, store_ptr, storeX_cells, put_nil, put_cons, lput_whole, cells_agg, cells_int, cells_bool, cells_str, cells_slice, cells_nils, cells_ptr, tup_agg, tup_int, tup_bool, tup_str, tup_slice, tup_nils, tup_ptr, o_box, box_ok, fill_nil, fill_cons, s_draw, stepD_some, d_still, d_nil, ok_01, ok_12, ok_23, ok_02, ok_13, ok_03, okAt_some, rdOk_load, beqO_some, beq_same, all_nil, all_cons, if_true', eff_mv, eff_pick, eff_load, eff_bin, eff_eq, eff_un, eff_toInt, eff_call, eff_extract, eff_fieldA, eff_field, eff_idxASl, eff_len, eff_minmax, eff_build, eff_slc, eff_append, eff_new, eff_box, eff_store, eff_buildS, eff_nilck, eff_idxAArr, eff_idxArr, eff_idxStr, eff_slcStr, eff_slcArr, eff_mkFn, eff_idS, eff_bToS, eff_sToB, eff_mkS, eff_copy, eff_clearS, eff_mkIface, eff_lenC, or_self, imp_self, eq_self, d_op, d_rd, d_gt, d_gf, d_nt, d_nf, d_nu, aop_load, ans_some, cell_some, List.length_cons, List.length_nil, List.take_succ_cons, List.take_zero, List.drop_zero, List.drop_succ_cons, List.set_cons_zero, List.set_cons_succ, List.mem_cons, List.not_mem_nil, Nat.reduceAdd, Nat.reduceMul, Nat.reduceLeDiff, Int.reduceEq, Int.reduceLT, Int.reduceLE, Int.reduceAdd, Int.reduceSub, Int.reduceMul, Nat.zero_add, Nat.add_zero, Option.some.injEq, forall_eq_or_imp, forall_eq, or_false, and_self, false_imp_iff, implies_true, o_new, o_load, o_store, o_build, o_slc, o_append, o_buildS, buildX_some, o_sToB, sToB_str, o_idS', idS_str, o_bToS, o_nilck, nilck_ptr, nilck_fn, e_nilp0, e_nilp1, e_nilp2, e_nils0, e_nils1, o_mkFn, o_mkS, o_copy, o_clearS, clrX_some, o_idxAArr, idxAArr_ptr, o_idxArr, idxArr_agg, o_idxStr, idxStr_str, o_slcStr, slcStr_str, o_slcArr, o_mkIface, Nat.mul_one, stepO_some, stepO_cnd, stepO_none, setd_some, setd_none, set_get, ev_tmp, ev_con, init_get, List.getD_cons_zero, List.getD_cons_succ, List.map_cons, List.map_nil, List.append_nil, List.nil_append, List.cons_append, List.getElem?_cons_zero, List.getElem?_cons_succ, b_eql, b_neq, b_lss, b_leq, b_gtr, b_geq, b_add, b_sub, b_mul, b_quo, b_rem, u_not, u_neg, m_max, m_min, e_int, neg_f, neg_t, eqX_some, fldX_some, e_fld, e_fend, e_bool, e_str, Bool.and_true, beq_self_eq_true, vX_some, vX_none, vX_cnd, hX_some, hX_none, outX_some, outX_none, outX_cnd, seqX_cnd, seqX_normal, seqX_exit, seqX_ret, seqX_none, AX_skip, AX_ret, AX_exit, endX_cnd, endX_normal, endX_ret, endX_none, res_nil, res_tmp, res_cell, cons_some, cell_some, retX_some, ret_one, ret_nil, ret_two, call_fn, Option.map_some, Option.map_none, Option.bind_some, ↓reduceIte, Nat.reduceEqDiff, reduceCtorEq, ↓cnd_true, ↓cnd_false, Bool.not_true, Bool.not_false, decide_true, decide_false, b_tf, b_ft, Nat.left_eq_add, Nat.add_eq_left, eq_self, bne_self_eq_false]
    · have e2 : decide (n < 0) = true := by simp; omega
      simp only [c9, U42, e1, e2, s_seq, s_region, s_op, s_nil, s_grd, grd_t, grd_f, grd_u, s_cond, condX_bool, s_block, blockX_normal, blockX_exit, blockX_ret, blockX_cnd, blockX_none, o_mv, o_bin, o_un, o_pick, pick_bool, o_call, o_extract, ext_tuple, o_eq, o_toInt, int_int, o_field, field_agg, o_fieldA, fieldA_ptr, o_len, len_slice, len_nils, len_str, Nat.add_assoc, o_lenC, o_minmax, o_idxASl, idxASl_slice, new_obj, new_next, set_obj, set_next, noH_obj, noH_next, load_ptr, loadX_cells, apart_one, apart_agg, apart_all, store_ptr, storeX_cells, put_nil, put_cons, lput_whole, cells_agg, cells_int, cells_bool, cells_str, cells_slice, cells_nils, cells_ptr, tup_agg, tup_int, tup_bool, tup_str, tup_slice, tup_nils, tup_ptr, o_box, box_ok, fill_nil, fill_cons, s_draw, stepD_some, d_still, d_nil, ok_01, ok_12, ok_23, ok_02, ok_13, ok_03, okAt_some, rdOk_load, beqO_some, beq_same, all_nil, all_cons, if_true', eff_mv, eff_pick, eff_load, eff_bin, eff_eq, eff_un, eff_toInt, eff_call, eff_extract, eff_fieldA, eff_field, eff_idxASl, eff_len, eff_minmax, eff_build, eff_slc, eff_append, eff_new, eff_box, eff_store, eff_buildS, eff_nilck, eff_idxAArr, eff_idxArr, eff_idxStr, eff_slcStr, eff_slcArr, eff_mkFn, eff_idS, eff_bToS, eff_sToB, eff_mkS, eff_copy, eff_clearS, eff_mkIface, eff_lenC, or_self, imp_self, eq_self, d_op, d_rd, d_gt, d_gf, d_nt, d_nf, d_nu, aop_load, ans_some, cell_some, List.length_cons, List.length_nil, List.take_succ_cons, List.take_zero, List.drop_zero, List.drop_succ_cons, List.set_cons_zero, List.set_cons_succ, List.mem_cons, List.not_mem_nil, Nat.reduceAdd, Nat.reduceMul, Nat.reduceLeDiff, Int.reduceEq, Int.reduceLT, Int.reduceLE, Int.reduceAdd, Int.reduceSub, Int.reduceMul, Nat.zero_add, Nat.add_zero, Option.some.injEq, forall_eq_or_imp, forall_eq, or_false, and_self, false_imp_iff, implies_true, o_new, o_load, o_store, o_build, o_slc, o_append, o_buildS, buildX_some, o_sToB, sToB_str, o_idS', idS_str, o_bToS, o_nilck, nilck_ptr, nilck_fn, e_nilp0, e_nilp1, e_nilp2, e_nils0, e_nils1, o_mkFn, o_mkS, o_copy, o_clearS, clrX_some, o_idxAArr, idxAArr_ptr, o_idxArr, idxArr_agg, o_idxStr, idxStr_str, o_slcStr, slcStr_str, o_slcArr, o_mkIface, Nat.mul_one, stepO_some, stepO_cnd, stepO_none, setd_some, setd_none, set_get, ev_tmp, ev_con, init_get, List.getD_cons_zero, List.getD_cons_succ, List.map_cons, List.map_nil, List.append_nil, List.nil_append, List.cons_append, List.getElem?_cons_zero, List.getElem?_cons_succ, b_eql, b_neq, b_lss, b_leq, b_gtr, b_geq, b_add, b_sub, b_mul, b_quo, b_rem, u_not, u_neg, m_max, m_min, e_int, neg_f, neg_t, eqX_some, fldX_some, e_fld, e_fend, e_bool, e_str, Bool.and_true, beq_self_eq_true, vX_some, vX_none, vX_cnd, hX_some, hX_none, outX_some, outX_none, outX_cnd, seqX_cnd, seqX_normal, seqX_exit, seqX_ret, seqX_none, AX_skip, AX_ret, AX_exit, endX_cnd, endX_normal, endX_ret, endX_none, res_nil, res_tmp, res_cell, cons_some, cell_some, retX_some, ret_one, ret_nil, ret_two, call_fn, Option.map_some, Option.map_none, Option.bind_some, ↓reduceIte, Nat.reduceEqDiff, reduceCtorEq, ↓cnd_true, ↓cnd_false, Bool.not_true, Bool.not_false, decide_true, decide_false, b_tf, b_ft, Nat.left_eq_add, Nat.add_eq_left, eq_self, bne_self_eq_false]
  · have e1 : decide ((4096 : Int) < (s.length : Int)) = true := by simp; omega
    simp only [c9, U42, e1, s_seq, s_region, s_op, s_nil, s_grd, grd_t, grd_f, grd_u, s_cond, condX_bool, s_block, blockX_normal, blockX_exit, blockX_ret, blockX_cnd, blockX_none, o_mv, o_bin, o_un, o_pick, pick_bool, o_call, o_extract, ext_tuple, o_eq, o_toInt, int_int, o_field, field_agg, o_fieldA, fieldA_ptr, o_len, len_slice, len_nils, len_str, Nat.add_assoc, o_lenC, o_minmax, o_idxASl, idxASl_slice, new_obj, new_next, set_obj, set_next, noH_obj, noH_next, load_ptr, loadX_cells, apart_one, apart_agg, apart_all, store_ptr, storeX_cells, put_nil, put_cons, lput_whole, cells_agg, cells_int, cells_bool, cells_str, cells_slice, cells_nils, cells_ptr, tup_agg, tup_int, tup_bool, tup_str, tup_slice, tup_nils, tup_ptr, o_box, box_ok, fill_nil, fill_cons, s_draw, stepD_some, d_still, d_nil, ok_01, ok_12, ok_23, ok_02, ok_13, ok_03, okAt_some, rdOk_load, beqO_some, beq_same, all_nil, all_cons, if_true', eff_mv, eff_pick, eff_load, eff_bin, eff_eq, eff_un, eff_toInt, eff_call, eff_extract, eff_fieldA, eff_field, eff_idxASl, eff_len, eff_minmax, eff_build, eff_slc, eff_append, eff_new, eff_box, eff_store, eff_buildS, eff_nilck, eff_idxAArr, eff_idxArr, eff_idxStr, eff_slcStr, eff_slcArr, eff_mkFn, eff_idS, eff_bToS, eff_sToB, eff_mkS, eff_copy, eff_clearS, eff_mkIface, eff_lenC, or_self, imp_self, eq_self, d_op, d_rd, d_gt, d_gf, d_nt, d_nf, d_nu, aop_load, ans_some, cell_some, List.length_cons, List.length_nil, List.take_succ_cons, List.take_zero, List.drop_zero, List.drop_succ_cons, List.set_cons_zero, List.set_cons_succ, List.mem_cons, List.not_mem_nil, Nat.reduceAdd, Nat.reduceMul, Nat.reduceLeDiff, Int.reduceEq, Int.reduceLT, Int.reduceLE, Int.reduceAdd, Int.reduceSub, Int.reduceMul, Nat.zero_add, Nat.add_zero, Option.some.injEq, forall_eq_or_imp, forall_eq, or_false, and_self, false_imp_iff, implies_true, o_new, o_load, o_store, o_build, o_slc, o_append, o_buildS, buildX_some, o_sToB, sToB_str, o_idS', idS_str, o_bToS, o_nilck, nilck_ptr, nilck_fn, e_nilp0, e_nilp1, e_nilp2, e_nils0, e_nils1, o_mkFn, o_mkS, o_copy, o_clearS, clrX_some, o_idxAArr, idxAArr_ptr, o_idxArr, idxArr_agg, o_idxStr, idxStr_str, o_slcStr, slcStr_str, o_slcArr, o_mkIface, Nat.mul_one, stepO_some, stepO_cnd, stepO_none, setd_some, setd_none, set_get, ev_tmp, ev_con, init_get, List.getD_cons_zero, List.getD_cons_succ, List.map_cons, List.map_nil, List.append_nil, List.nil_append, List.cons_append, List.getElem?_cons_zero, List.getElem?_cons_succ, b_eql, b_neq, b_lss, b_leq, b_gtr, b_geq, b_add, b_sub, b_mul, b_quo, b_rem, u_not, u_neg, m_max, m_min, e_int, neg_f, neg_t, eqX_some, fldX_some, e_fld, e_fend, e_bool, e_str, Bool.and_true, beq_self_eq_true, vX_some, vX_none, vX_cnd, hX_some, hX_none, outX_some, outX_none, outX_cnd, seqX_cnd, seqX_normal, seqX_exit, seqX_ret, seqX_none, AX_skip, AX_ret, AX_exit, endX_cnd, endX_normal, endX_ret, endX_none, res_nil, res_tmp, res_cell, cons_some, cell_some, retX_some, ret_one, ret_nil, ret_two, call_fn, Option.map_some, Option.map_none, Option.bind_some, ↓reduceIte, Nat.reduceEqDiff, reduceCtorEq, ↓cnd_true, ↓cnd_false, Bool.not_true, Bool.not_false, decide_true, decide_false, b_tf, b_ft, Nat.left_eq_add, Nat.add_eq_left, eq_self, bne_self_eq_false]

theorem law9 (H : AHeap) (args : List AVal) (dats : List Dat) (h : AArgs Try.prog H [9, 3, 69] args dats) : ∃ k H', acall A k 9 args H = some (.bool true, H') := by
  obtain ⟨v0, r, d0, ds, rfl, rfl, h0, h⟩ := args_cons h
  obtain ⟨v1, r, d1, ds, rfl, rfl, h1, h⟩ := args_cons h
  obtain ⟨v2, r, d2, ds, rfl, rfl, h2, h⟩ := args_cons h
  obtain rfl := args_nil h
  obtain ⟨s, rfl, _⟩ := arg_str Try.underlying9 h0
  obtain ⟨n, rfl, _, hn⟩ := arg_int Try.underlying3 h1
  obtain ⟨m, rfl, _, hm⟩ := arg_int Try.underlying69 h2
  have e : AVal.int .u32 m = u (BitVec.ofNat 32 m.toNat) := by
    have h3 : (0 : Int) ≤ m := hm.1
    have h4 : m ≤ 4294967295 := hm.2
    rw [← k_u m.toNat (by omega), Int.toNat_of_nonneg h3]
  rw [e]
  obtain ⟨H', hr⟩ := run9 s n (BitVec.ofNat 32 m.toNat) H hn
  obtain ⟨k, hk⟩ := AC_iff.1 hr
  exact ⟨k, H', hk⟩

end Go.Proofs.Ytjbmmbmbdlpihaa.Cr
