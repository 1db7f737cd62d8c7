/- TopForecast: the run and the law. -/
import Derived.Test.YtfpbmoiconopcaaGhC
set_option maxRecDepth 100000
set_option linter.unusedSimpArgs false
set_option linter.unusedVariables false
set_option maxHeartbeats 2000000
namespace Go.Proofs.Ytfpbmoiconopcaa.Gh
open Go Go.Proofs.Ytfpbmoiconopcaa.Am GaFns Go.RowKit

theorem U58 (x : Nat) (hx : Fl.num x) (H : AHeap) : AC A 58 [.flt .f64 x] H = some (.flt .f64 (ffloor x), H) := by
  refine one_val (x := GaFns.c58) rfl rfl rfl rfl rfl ?_ H
  have h : decide (Fl.num x) = true := by simpa using hx
  simp only [c58, h, rwA, rwB, Nat.reduceAdd, Nat.reduceMul, Nat.reduceLeDiff, Int.reduceEq, Int.reduceLT, Int.reduceLE, Int.reduceAdd, Int.reduceSub, Int.reduceMul, ↓reduceIte, Nat.reduceEqDiff, reduceCtorEq, ↓cnd_true, ↓cnd_false]

structure J13 (b e room lim : Int) (N i : Nat) (env : Env) (K : AHeap) : Prop where
  st : ∃ p q s, env 11 = .ptr p 0 ∧ env 13 = .ptr q 0 ∧ p < K.next ∧ q < K.next ∧ p ≠ q ∧ K.obj p = some (.cells [.int .i64 room, s] true) ∧ K.obj q = some (.cells [.int .i64 lim, .int .i64 (-1)] true) ∧ Sl K 2 s (PS (hist b e room.toNat i)) ∧ (∀ x, x ∈ s.ids → x < K.next ∧ x ≠ p ∧ x ≠ q)
  h1 : env 1 = .int .u16 e
  h14 : env 14 = .int .i64 b
  h53 : env 53 = .int .i64 (N : Int)
  h54 : env 54 = .int .i64 (i : Int)

def b13 : ACode := (.seq (.region [⟨(some 55), (.bin .lss (.tmp 54) (.tmp 53)), none, none⟩]) (.seq (.cond (.tmp 55) .skip (.exit 0)) (.seq (.block 1 (.seq (.region [⟨(some 56), (.mv (.tmp 54)), none, none⟩, ⟨(some 15), (.mv (.tmp 56)), none, none⟩]) (.seq (.region [⟨(some 58), (.load true 2 (.tmp 11)), none, none⟩, ⟨(some 59), (.mv (.tmp 15)), none, none⟩, ⟨(some 60), (.mv (.tmp 14)), none, none⟩, ⟨(some 61), (.mv (.tmp 15)), none, none⟩, ⟨(some 62), (.mv (.tmp 1)), none, none⟩, ⟨(some 63), (.toInt .i64 (.tmp 62)), none, none⟩, ⟨(some 64), (.bin .mul (.tmp 61) (.tmp 63)), none, none⟩, ⟨(some 65), (.bin .add (.tmp 60) (.tmp 64)), none, none⟩, ⟨(some 66), (.build [(.int .i64 0), (.int .i64 0)] [(0, (1, (.tmp 59))), (1, (1, (.tmp 65)))]), none, none⟩, ⟨(some 67), (.call (.con (.func 36 [] [])) [(.tmp 58), (.tmp 66)]), none, none⟩, ⟨(some 57), (.mv (.tmp 67)), none, none⟩, ⟨(some 68), (.extract (.tmp 57) 0), none, none⟩, ⟨(some 69), (.extract (.tmp 57) 1), none, none⟩, ⟨(some 16), (.new [(.int .i64 0), .nils]), none, none⟩, ⟨none, (.store 2 (.tmp 16) (.tmp 68)), none, none⟩, ⟨(some 17), (.mv (.tmp 69)), none, none⟩]) (.seq (.seq (.region [⟨(some 70), (.mv (.tmp 17)), none, none⟩, ⟨(some 71), (.bin .neq (.tmp 70) (.con (.int .i64 0))), none, none⟩]) (.cond (.tmp 71) (.seq (.region [⟨(some 10), (.mv (.con (.bool false))), none, none⟩]) .ret) .skip)) (.region [⟨(some 72), (.load true 2 (.tmp 16)), none, none⟩, ⟨none, (.store 2 (.tmp 11) (.tmp 72)), none, none⟩]))))) (.region [⟨(some 73), (.bin .add (.tmp 54) (.con (.int .i64 1))), none, none⟩, ⟨(some 54), (.mv (.tmp 73)), none, none⟩]))))
theorem round13 {b e room lim : Int} {N i : Nat} {env : Env} {K : AHeap} (h : J13 b e room lim N i env K) (hb : 0 ≤ b ∧ b ≤ 65535) (he : 0 ≤ e ∧ e ≤ 65535) (hr : 1 ≤ room ∧ room ≤ 64) (hN : N ≤ 21) (hi : i < N) :
    Outs (AX A b13 env K) fun o env' K' => o = .normal ∧ J13 b e room lim N (i + 1) env' K' := by
  obtain ⟨⟨p, q, s, h11, h13, hp, hq, hpq, op, oq, hs, hid⟩, h1, h14, h53, h54⟩ := h
  have e1 : decide ((i : Int) < (N : Int)) = true := by simp; omega
  have w1 : IntKind.i64.wrap ((i : Int) + 1) = ((i + 1 : Nat) : Int) := by rw [wrap_i64]; omega
  have w2 : IntKind.i64.wrap e = e := by rw [wrap_i64]; omega
  have m0 : (0 : Int) ≤ (i : Int) * e := Int.mul_nonneg (by omega) he.1
  have m1 : (i : Int) * e ≤ 30 * 65535 := Int.mul_le_mul (by omega) he.2 he.1 (by omega)
  have w3 : IntKind.i64.wrap ((i : Int) * e) = (i : Int) * e := by rw [wrap_i64]; omega
  have w4 : IntKind.i64.wrap (b + (i : Int) * e) = b + (i : Int) * e := by rw [wrap_i64]; omega
  have u36 := U36t (r := room) hs (fun x hx => (hid x hx).1) (i : Int) (b + (i : Int) * e) (hist_may hb he hr (by omega))
  rw [hist_succ] at u36
  obtain ⟨n, en⟩ : ∃ n, (hist b e room.toNat (i + 1)).length = n := ⟨_, rfl⟩
  rw [en] at u36
  obtain ⟨K1, eK1⟩ : ∃ K1, K.new (.cells (PS (hist b e room.toNat (i + 1))) true) = K1 := ⟨_, rfl⟩
  rw [eK1] at u36
  have nK1 : K1.next = K.next + 1 := by rw [← eK1]; rfl
  have oK1 : K1.obj K.next = some (.cells (PS (hist b e room.toNat (i + 1))) true) := by rw [← eK1]; simp [AHeap.new]
  have op1 : K1.obj p = some (.cells [.int .i64 room, s] true) := by rw [← eK1]; simp only [new_obj]; rw [if_neg (by omega)]; exact op
  have oq1 : K1.obj q = some (.cells [.int .i64 lim, .int .i64 (-1)] true) := by rw [← eK1]; simp only [new_obj]; rw [if_neg (by omega)]; exact oq
  obtain ⟨K2, eK2⟩ : ∃ K2, (K1.new (.cells [.int .i64 0, .nils] true)).set (K.next + 1) (.cells [.int .i64 room, .slice K.next 0 n n (some 2)] true) = K2 := ⟨_, rfl⟩
  have nK2 : K2.next = K.next + 2 := by rw [← eK2]; simp [set_next, new_next, nK1]
  have oK2 : K2.obj (K.next + 1) = some (.cells [.int .i64 room, .slice K.next 0 n n (some 2)] true) := by rw [← eK2]; simp [AHeap.set]
  have op2 : K2.obj p = some (.cells [.int .i64 room, s] true) := by rw [← eK2]; simp only [set_obj, new_obj, nK1]; rw [if_neg (by omega), if_neg (by omega)]; exact op1
  have oq2 : K2.obj q = some (.cells [.int .i64 lim, .int .i64 (-1)] true) := by rw [← eK2]; simp only [set_obj, new_obj, nK1]; rw [if_neg (by omega), if_neg (by omega)]; exact oq1
  have os2 : K2.obj K.next = some (.cells (PS (hist b e room.toNat (i + 1))) true) := by rw [← eK2]; simp only [set_obj, new_obj, nK1]; rw [if_neg (by omega), if_neg (by omega)]; exact oK1
  simp only [b13, h1, h11, h14, h53, h54, e1, w1, w2, w3, w4, op, u36, nK1, eK2, oK2, op2, Bool.not_true, rwA, rwB, Nat.reduceAdd, Nat.reduceMul, Nat.reduceLeDiff, Int.reduceEq, Int.reduceLT, Int.reduceLE, Int.reduceAdd, Int.reduceSub, Int.reduceMul, ↓reduceIte, Nat.reduceEqDiff, reduceCtorEq, ↓cnd_true, ↓cnd_false]
  rw [outs_some]
  refine ⟨rfl, ⟨p, q, .slice K.next 0 n n (some 2), by simp [Env.set, h11], by simp [Env.set, h13], by simp only [set_next]; omega, by simp only [set_next]; omega, hpq, by simp [AHeap.set], ?_, ?_, ?_⟩, by simp [Env.set, h1], by simp [Env.set, h14], by simp [Env.set, h53], by simp [Env.set]⟩
  · simp only [set_obj]; rw [if_neg (by omega)]; exact oq2
  · refine .inr ⟨_, _, _, _, _, rfl, by rw [PS_len, en], .inr ⟨PS (hist b e room.toNat (i + 1)), true, ?_, by rw [PS_len, en]; omega, by rw [List.drop_zero, List.take_of_length_le (by rw [PS_len, en]; omega)]⟩⟩
    simp only [set_obj]; rw [if_neg (by omega)]; exact os2
  · intro x hx
    simp [AVal.ids] at hx
    simp only [set_next]
    omega

theorem loop13 {b e room lim : Int} {N : Nat} {env : Env} {K : AHeap} (h : J13 b e room lim N 0 env K) (hb : 0 ≤ b ∧ b ≤ 65535) (he : 0 ≤ e ∧ e ≤ 65535) (hr : 1 ≤ room ∧ room ≤ 64) (hN : N ≤ 21) :
    Outs (AX A (.loop b13) env K) fun o env' K' => o = .exit 0 ∧ J13 b e room lim N N env' K' := by
  refine loop_ends (I := fun (i : Nat) env' K' => i ≤ N ∧ J13 b e room lim N i env' K') (fun i => N - i) ?_ 0 env K ⟨Nat.zero_le _, h⟩
  rintro i env' K' ⟨hi, h⟩
  by_cases hlt : i < N
  · refine (round13 h hb he hr hN hlt).mono ?_
    rintro o env2 K2 ⟨rfl, h2⟩
    exact .inl ⟨rfl, i + 1, by omega, by omega, h2⟩
  · have : i = N := by omega
    subst this
    obtain ⟨hst, h1, h14, h53, h54⟩ := h
    have e1 : decide ((i : Int) < (i : Int)) = false := by simp
    simp only [b13, h53, h54, e1, rwA, rwB, Nat.reduceAdd, Nat.reduceMul, Nat.reduceLeDiff, Int.reduceEq, Int.reduceLT, Int.reduceLE, Int.reduceAdd, Int.reduceSub, Int.reduceMul, ↓reduceIte, Nat.reduceEqDiff, reduceCtorEq, ↓cnd_true, ↓cnd_false]
    rw [outs_some]
    obtain ⟨p, q, s, h11, h13, hr⟩ := hst
    exact .inr ⟨by simp, rfl, ⟨p, q, s, by simpa [Env.set] using h11, by simpa [Env.set] using h13, hr⟩, by simpa [Env.set] using h1, by simpa [Env.set] using h14, by simpa [Env.set] using h53, by simpa [Env.set] using h54⟩

def b13b : ACode := (.seq (.seq (.region [⟨(some 100), (.mv (.tmp 21)), none, none⟩, ⟨(some 101), (.build [(.int .i64 0), (.int .i64 0)] [(0, (1, (.tmp 100)))]), none, none⟩, ⟨(some 102), (.mv (.tmp 21)), none, none⟩, ⟨(some 103), (.mv (.tmp 1)), none, none⟩, ⟨(some 104), (.toInt .i64 (.tmp 103)), none, none⟩, ⟨(some 105), (.bin .add (.tmp 102) (.tmp 104)), none, none⟩, ⟨(some 106), (.build [(.int .i64 0), (.int .i64 0)] [(0, (1, (.tmp 105)))]), none, none⟩, ⟨(some 107), (.load true 2 (.tmp 13)), none, none⟩, ⟨(some 108), (.call (.con (.func 54 [] [])) [(.tmp 101), (.tmp 106), (.tmp 107)]), none, none⟩, ⟨(some 109), (.bin .eql (.tmp 108) (.con (.int .i64 0))), none, none⟩]) (.cond (.tmp 109) .skip (.exit 2))) (.block 3 (.seq (.region [⟨(some 110), (.mv (.tmp 21)), none, none⟩, ⟨(some 111), (.mv (.tmp 1)), none, none⟩, ⟨(some 112), (.toInt .i64 (.tmp 111)), none, none⟩, ⟨(some 113), (.bin .add (.tmp 110) (.tmp 112)), none, none⟩, ⟨(some 21), (.mv (.tmp 113)), none, none⟩]) (.region [⟨(some 114), (.mv (.tmp 22)), none, none⟩, ⟨(some 115), (.bin .add (.tmp 114) (.con (.int .i64 1))), none, none⟩, ⟨(some 22), (.mv (.tmp 115)), none, none⟩]))))
/-- What may still come, tick by tick. -/
theorem loop13b {u D E : Nat} {lim : Int} {q : Nat} {env : Env} {K : AHeap} (hl : lim = (u : Int) + D) (hlim : lim ≤ 262144) (hE : 1 ≤ E ∧ E ≤ 65535) (h13 : env 13 = .ptr q 0) (oq : K.obj q = some (.cells [.int .i64 lim, .int .i64 (-1)] true)) (h1 : env 1 = .int .u16 (E : Int)) (h21 : env 21 = .int .i64 (u : Int)) (h22 : env 22 = .int .i64 0)
    {x11 x20 : AVal} (h11 : env 11 = x11) (h20 : env 20 = x20) :
    Outs (AX A (.loop b13b) env K) fun o env' K' => o = .exit 2 ∧ K' = K ∧ env' 21 = .int .i64 ((u + D / E * E : Nat) : Int) ∧ env' 22 = .int .i64 ((D / E : Nat) : Int) ∧ env' 1 = .int .u16 (E : Int) ∧ env' 13 = .ptr q 0 ∧ env' 11 = x11 ∧ env' 20 = x20 := by
  refine loop_ends (I := fun (n : Nat) env' K' => n ≤ D / E ∧ K' = K ∧ env' 21 = .int .i64 ((u + n * E : Nat) : Int) ∧ env' 22 = .int .i64 (n : Int) ∧ env' 1 = .int .u16 (E : Int) ∧ env' 13 = .ptr q 0 ∧ env' 11 = x11 ∧ env' 20 = x20) (fun n => D / E - n) ?_ 0 env K
    ⟨Nat.zero_le _, rfl, by simpa using h21, h22, h1, h13, h11, h20⟩
  rintro n env' K' ⟨hn, rfl, h21, h22, h1, h13, h11, h20⟩
  have hdm := Nat.div_add_mod D E
  have hml := Nat.mod_lt D (show 0 < E by omega)
  have hnE : n * E ≤ D / E * E := Nat.mul_le_mul_right _ hn
  have hc : D / E * E = E * (D / E) := Nat.mul_comm _ _
  have hDE : D / E ≤ D := Nat.div_le_self _ _
  obtain ⟨m, em⟩ : ∃ m, u + n * E = m := ⟨_, rfl⟩
  obtain ⟨m2, em2⟩ : ∃ m2, m + E = m2 := ⟨_, rfl⟩
  rw [em] at h21
  have w1 : IntKind.i64.wrap (E : Int) = (E : Int) := by rw [wrap_i64]; omega
  have w2 : IntKind.i64.wrap ((m : Int) + (E : Int)) = (m2 : Int) := by rw [wrap_i64]; omega
  have w3 : IntKind.i64.wrap ((n : Int) + 1) = ((n + 1 : Nat) : Int) := by rw [wrap_i64]; omega
  have c1 : cnt (m : Int) = true := by simp only [cnt, Bool.and_eq_true, decide_eq_true_eq]; omega
  have c2 : cnt (m2 : Int) = true := by simp only [cnt, Bool.and_eq_true, decide_eq_true_eq]; omega
  have c3 : bnd lim = true := by
    have : cnt lim = true := by simp only [cnt, Bool.and_eq_true, decide_eq_true_eq]; omega
    simp [bnd, this]
  have c4 : over 0 0 (-1) = false := by decide
  have hg : ∀ bb, over (m : Int) (m2 : Int) lim = bb → grows (m : Int) 0 (m2 : Int) 0 lim (-1) = if bb then 12 else 0 := by
    intro bb hbb
    have z : cnt 0 = true := by decide
    have mm : bnd (-1) = true := by decide
    simp only [grows, c1, c2, c3, c4, z, mm, hbb, Bool.and_self, if_true, Bool.or_false]
  by_cases hlt : n < D / E
  · have hn1 : (n + 1) * E ≤ D / E * E := Nat.mul_le_mul_right _ (by omega)
    rw [Nat.add_mul, Nat.one_mul] at hn1
    have ho : over (m : Int) (m2 : Int) lim = false := by
      unfold over
      rw [decide_eq_false (show ¬ lim < (m2 : Int) by omega)]; simp
    have g0 := hg _ ho
    simp only [Bool.false_eq_true, if_false] at g0
    simp only [b13b, h21, h22, h1, h13, oq, w1, w2, w3, U54, g0, decide_true, rwA, rwB, Nat.reduceAdd, Nat.reduceMul, Nat.reduceLeDiff, Int.reduceEq, Int.reduceLT, Int.reduceLE, Int.reduceAdd, Int.reduceSub, Int.reduceMul, ↓reduceIte, Nat.reduceEqDiff, reduceCtorEq, ↓cnd_true, ↓cnd_false]
    rw [outs_some]
    refine .inl ⟨rfl, n + 1, by omega, by omega, rfl, ?_, by simp [Env.set], by simp [Env.set, h1], by simp [Env.set, h13], by simp [Env.set, h11], by simp [Env.set, h20]⟩
    rw [Nat.add_mul, Nat.one_mul, show u + (n * E + E) = m2 by omega]
    simp [Env.set]
  · have hn2 : n = D / E := by omega
    have ho : over (m : Int) (m2 : Int) lim = true := by
      unfold over
      rw [decide_eq_true (show (m : Int) < (m2 : Int) by omega), decide_eq_true (show lim < (m2 : Int) by rw [hn2] at em; omega), decide_eq_false (show ¬ lim = -1 by omega)]; rfl
    have g0 := hg _ ho
    simp only [if_true] at g0
    simp only [b13b, h21, h22, h1, h13, oq, w1, w2, w3, U54, g0, rwA, rwB, Nat.reduceAdd, Nat.reduceMul, Nat.reduceLeDiff, Int.reduceEq, Int.reduceLT, Int.reduceLE, Int.reduceAdd, Int.reduceSub, Int.reduceMul, ↓reduceIte, Nat.reduceEqDiff, reduceCtorEq, ↓cnd_true, ↓cnd_false]
    rw [outs_some]
    rw [← hn2, em]
    exact .inr ⟨by simp, rfl, rfl, by simp [Env.set, h21], by simp [Env.set, h22], by simp [Env.set, h1], by simp [Env.set, h13], by simp [Env.set, h11], by simp [Env.set, h20]⟩

theorem word_facts {r : Nat} (h : r < 9218868437227405312) : Fl.num (Ieee.double.word false r) ∧ Fl.sg (Ieee.double.word false r) = false ∧ Fl.rg (Ieee.double.word false r) = r :=
  ⟨Fl.num_word _ (by omega), Fl.sg_word _ (by omega), Fl.rg_word _ (by omega)⟩

theorem left_val {w l : Int} (h1 : 0 ≤ w) (h2 : w ≤ l) (h3 : l ≤ 1125899906842624) : left w l = l - w := by
  have c1 : cnt w = true := by simp only [cnt, Bool.and_eq_true, decide_eq_true_eq]; omega
  have c2 : lim l = l := by unfold lim; rw [if_neg (by omega)]
  have c3 : cnt l = true := by simp only [cnt, Bool.and_eq_true, decide_eq_true_eq]; omega
  unfold left
  rw [c2, c1, c3, Bool.and_self, if_pos rfl, if_neg (by omega)]

theorem run13 (b e lim tk room : Int) (hb : 0 ≤ b ∧ b ≤ 65535) (he : 0 ≤ e ∧ e ≤ 65535) (hlim : 0 ≤ lim ∧ lim ≤ 4294967295) (htk : 0 ≤ tk ∧ tk ≤ 255) (H : AHeap) : ∃ H', AC A 13 [.int .u16 b, .int .u16 e, .int .u32 lim, .int .u8 tk, .int .i64 room] H = some (.bool true, H') := by
  show Ans (AC A 13 [.int .u16 b, .int .u16 e, .int .u32 lim, .int .u8 tk, .int .i64 room] H) (.bool true)
  have hf := s_fn (A := A) (f := 13) (x := GaFns.c13) rfl rfl rfl [.int .u16 b, .int .u16 e, .int .u32 lim, .int .u8 tk, .int .i64 room] H
  rw [s_fn (A := A) (f := 13) (x := GaFns.c13) rfl rfl rfl]
  have c0 := chk0 room []
  cases hr : right room [] <;> rw [hr] at c0
  · have u52 := U52 room H
    rw [hr] at u52
    simp only [c13, U57, U52, hr, c0, if_false, Bool.false_eq_true, Bool.not_true, Bool.not_false, rwA, rwB, Nat.reduceAdd, Nat.reduceMul, Nat.reduceLeDiff, Int.reduceEq, Int.reduceLT, Int.reduceLE, Int.reduceAdd, Int.reduceSub, Int.reduceMul, ↓reduceIte, Nat.reduceEqDiff, reduceCtorEq, ↓cnd_true, ↓cnd_false]
  · obtain ⟨⟨hr1, hr2⟩, _, _⟩ := right_good hr
    have c1 : chk room [] = 0 := by simp [chk, hr]
    by_cases r2 : room < 2
    · simp only [c13, U57, U52, hr, c1, r2, if_true, decide_true, Bool.not_true, Bool.not_false, rwA, rwB, Nat.reduceAdd, Nat.reduceMul, Nat.reduceLeDiff, Int.reduceEq, Int.reduceLT, Int.reduceLE, Int.reduceAdd, Int.reduceSub, Int.reduceMul, ↓reduceIte, Nat.reduceEqDiff, reduceCtorEq, ↓cnd_true, ↓cnd_false]
    by_cases e0 : e = 0
    · have de : decide (e = 0) = true := decide_eq_true e0
      simp only [c13, U57, U52, hr, c1, r2, de, if_true, decide_true, decide_false, Bool.not_true, Bool.not_false, rwA, rwB, Nat.reduceAdd, Nat.reduceMul, Nat.reduceLeDiff, Int.reduceEq, Int.reduceLT, Int.reduceLE, Int.reduceAdd, Int.reduceSub, Int.reduceMul, ↓reduceIte, Nat.reduceEqDiff, reduceCtorEq, ↓cnd_true, ↓cnd_false]
    have de : decide (e = 0) = false := decide_eq_false e0
    by_cases l0 : (262144 : Int) < lim
    · simp only [c13, U57, U52, hr, c1, r2, de, l0, if_true, decide_true, decide_false, Bool.not_true, Bool.not_false, rwA, rwB, Nat.reduceAdd, Nat.reduceMul, Nat.reduceLeDiff, Int.reduceEq, Int.reduceLT, Int.reduceLE, Int.reduceAdd, Int.reduceSub, Int.reduceMul, ↓reduceIte, Nat.reduceEqDiff, reduceCtorEq, ↓cnd_true, ↓cnd_false]
    have hl1 : 0 ≤ lim ∧ lim ≤ 262144 := ⟨hlim.1, by omega⟩
    have he1 : 1 ≤ e ∧ e ≤ 65535 := ⟨by omega, he.2⟩
    have hr3 : 2 ≤ room ∧ room ≤ 64 := ⟨by omega, hr2⟩
    have wl : IntKind.i64.wrap lim = lim := by rw [wrap_i64]; omega
    have wb : IntKind.i64.wrap b = b := by rw [wrap_i64]; omega
    obtain ⟨N, hN⟩ : ∃ N : Nat, tk.tmod 20 + 2 = (N : Int) ∧ 2 ≤ N ∧ N ≤ 21 := by
      have h1 : tk.tmod 20 = tk % 20 := Int.tmod_eq_emod_of_nonneg htk.1
      refine ⟨(tk % 20 + 2).toNat, ?_, ?_, ?_⟩ <;> omega
    obtain ⟨hN, hN2, hN3⟩ := hN
    have wN1 : IntKind.i64.wrap (tk.tmod 20) = tk.tmod 20 := by rw [wrap_i64]; omega
    have wN2 : IntKind.i64.wrap (tk.tmod 20 + 2) = (N : Int) := by rw [wrap_i64]; omega
    have d20 : decide ((20 : Int) = 0) = false := by decide
    simp only [c13, U57, U52, hr, c1, r2, de, l0, wl, wb, wN1, wN2, d20, if_true, decide_true, decide_false, Bool.not_true, Bool.not_false, rwA, rwB, Nat.reduceAdd, Nat.reduceMul, Nat.reduceLeDiff, Int.reduceEq, Int.reduceLT, Int.reduceLE, Int.reduceAdd, Int.reduceSub, Int.reduceMul, ↓reduceIte, Nat.reduceEqDiff, reduceCtorEq, ↓cnd_true, ↓cnd_false]
    repeat (first | refine outs_seq ?_ | refine outs_block ?_ | refine outs_step ?_ | refine outs_stepD ?_ | refine rets_end ?_ | refine ans_end ?_)
    refine (loop13 (b := b) (e := e) (room := room) (lim := lim) (N := N) ?_ hb he ⟨hr1, hr2⟩ hN3).mono ?_
    · refine ⟨⟨H.next, H.next + 1, .nils, by simp [Env.set], by simp [Env.set, new_next], by simp only [set_next, new_next]; omega, by simp only [set_next, new_next]; omega, by omega, ?_, ?_, ?_, by simp [AVal.ids]⟩, by simp [Env.set, ainit], by simp [Env.set], by simp [Env.set], by simp [Env.set]⟩
      · simp only [set_obj, new_obj, set_next, new_next]; rw [if_neg (by omega), if_neg (by omega), if_pos trivial]
      · simp only [set_obj, new_obj, set_next, new_next]; rw [if_pos trivial]
      · refine .inl ⟨rfl, ?_⟩
        simp [hist, PS]
    · rintro o env K ⟨rfl, ⟨p, q, s, h11, h13, hp, hq, hpq, op, oq, hs, hid⟩, h1, h14, h53, h54⟩
      have he0 : 0 ≤ e ∧ e ≤ 65535 := ⟨by omega, he.2⟩
      have hk := hist_len b e room.toNat N
      have hid1 : ∀ x, x ∈ s.ids → x < K.next := fun x hx => (hid x hx).1
      have u40 := U40 (r := room) hs hid1 (by omega)
      have hh := hist_has (r := room) hb he0 ⟨hr1, hr2⟩ (show N ≤ 30 by omega) (by omega)
      have hlast := hist_last (b := b) (e := e) (r := room) ⟨hr1, hr2⟩ (show 1 ≤ N by omega)
      obtain ⟨⟨x, y⟩, exy⟩ : ∃ z, pt b e (N - 1) = z := ⟨_, rfl⟩
      have elo : lastOf room (hist b e room.toNat N) = (x, y) := by simp only [lastOf, hh, if_true, hlast, exy]
      rw [elo, hh] at u40
      have hy : 0 ≤ y ∧ y ≤ 1125899906842624 := by
        have h1 := pt_ok (j := N - 1) hb he0 (by omega)
        rw [exy] at h1
        simp only [okp, cnt, Bool.and_eq_true, decide_eq_true_eq] at h1
        exact h1.2
      obtain ⟨K2, eK2⟩ : ∃ K2, (K.new (.cells [.int .i64 0, .int .i64 0] true)).set K.next (.cells [.int .i64 x, .int .i64 y] true) = K2 := ⟨_, rfl⟩
      have nK2 : K2.next = K.next + 1 := by rw [← eK2]; rfl
      have kK2 : Keeps K K2 := ⟨by omega, fun i hi => by rw [← eK2]; simp only [set_obj, new_obj]; rw [if_neg (by omega), if_neg (by omega)]⟩
      have hsK2 := hs.keep hid1 kK2
      have hid2 : ∀ i, i ∈ s.ids → i < K2.next := fun i hi => by have := hid1 i hi; omega
      have op2 : K2.obj p = some (.cells [.int .i64 room, s] true) := by rw [kK2.2 p hp]; exact op
      have oq2 : K2.obj q = some (.cells [.int .i64 lim, .int .i64 (-1)] true) := by rw [kK2.2 q hq]; exact oq
      have ox2 : K2.obj K.next = some (.cells [.int .i64 x, .int .i64 y] true) := by rw [← eK2]; simp [AHeap.set]
      have u48 := U48 (r := room) hsK2 hid2 (by omega) lim (by omega)
      have u49 := fun tk => U49 (r := room) hsK2 hid2 (by omega) lim tk (by omega)
      by_cases hle : lim ≤ y
      · have el := left_done hb he1 hr3 hN2 (by omega) (by rw [exy]; exact hle) hl1.1
        rw [el] at u48 u49
        have z1 : feq 0 0 = true := by decide +kernel
        have z2 : (flss 0 (fint 0) || feq 0 (fint 0)) = true := by decide +kernel
        have u490 := u49 0
        rw [z2] at u490
        simp only [outs_some, h1, h11, h13, op, u40, eK2, op2, oq2, ox2, u48, u490, z1, hle, decide_true, Bool.not_true, rwA, rwB, Nat.reduceAdd, Nat.reduceMul, Nat.reduceLeDiff, Int.reduceEq, Int.reduceLT, Int.reduceLE, Int.reduceAdd, Int.reduceSub, Int.reduceMul, ↓reduceIte, Nat.reduceEqDiff, reduceCtorEq, ↓cnd_true, ↓cnd_false]
      · obtain ⟨Y, rfl⟩ := Int.eq_ofNat_of_zero_le hy.1
        obtain ⟨E, rfl⟩ := Int.eq_ofNat_of_zero_le he.1
        obtain ⟨D, hD⟩ : ∃ D : Nat, lim = (Y : Int) + D := ⟨(lim - Y).toNat, by omega⟩
        have hE : 1 ≤ E ∧ E ≤ 65535 := by omega
        have el := left_is (D := D) (E := E) hb he1 hr3 hN2 (by omega) (by rw [exy]; exact hD) (by omega) hl1 (by omega) rfl
        obtain ⟨t1, t2, t3⟩ := told (D := D) (E := E) (by omega) hE
        obtain ⟨f1, f2, f3⟩ := word_facts t3
        obtain ⟨L, eL⟩ : ∃ L, Ieee.double.word false (Fl.rn (D * Fl.one) E) = L := ⟨_, rfl⟩
        rw [eL] at el f1 f2 f3
        rw [← f3] at t1 t2 t3
        rw [el] at u48 u49
        have hdm := Nat.div_add_mod D E
        have hml := Nat.mod_lt D (show 0 < E by omega)
        have hDE : D / E ≤ D := Nat.div_le_self _ _
        have hc : D / E * E = E * (D / E) := Nat.mul_comm _ _
        have hle' : decide (lim ≤ (Y : Int)) = false := decide_eq_false hle
        simp only [outs_some, h1, h11, h13, op, u40, eK2, op2, oq2, ox2, u48, hle', Bool.not_true, rwA, rwB, Nat.reduceAdd, Nat.reduceMul, Nat.reduceLeDiff, Int.reduceEq, Int.reduceLT, Int.reduceLE, Int.reduceAdd, Int.reduceSub, Int.reduceMul, ↓reduceIte, Nat.reduceEqDiff, reduceCtorEq, ↓cnd_true, ↓cnd_false]
        repeat (first | refine outs_seq ?_ | refine outs_block ?_ | refine outs_step ?_ | refine outs_stepD ?_ | refine rets_end ?_ | refine ans_end ?_)
        refine (loop13b (u := Y) (D := D) (E := E) (lim := lim) (q := q) hD hl1.2 hE ?_ oq2 ?_ ?_ ?_ (x11 := .ptr p 0) (x20 := .flt .f64 L) ?_ ?_).mono ?_
        · simp [Env.set, h13]
        · simp [Env.set, h1]
        · simp [Env.set]
        · simp [Env.set]
        · simp [Env.set, h11]
        · simp [Env.set]
        · rintro o env K3 ⟨rfl, rfl, h21, h22, h1, h13, h11, h20⟩
          obtain ⟨Q, eQ⟩ : ∃ Q, D / E = Q := ⟨_, rfl⟩
          rw [eQ] at h21 h22 t1 t2 hdm hDE hc
          obtain ⟨W, eW⟩ : ∃ W, Y + Q * E = W := ⟨_, rfl⟩
          rw [eW] at h21
          have hfl : ffloor L = fint (Q : Int) := by
            rw [floor_is t3 f2]
            congr 2
            exact Nat.div_eq_of_lt_le t1 t2
          have hti := toI_fint (n := Q) (by omega)
          have wE : IntKind.i64.wrap (E : Int) = (E : Int) := by rw [wrap_i64]; omega
          have w1 : IntKind.i64.wrap ((Q : Int) + 1) = ((Q + 1 : Nat) : Int) := by rw [wrap_i64]; omega
          have ofull := (off_le (a := (W : Int)) (b := lim) (by omega) (by omega) (by omega) (by omega)).1
          have dfull : decide (Fl.ord (off (W : Int) lim) 4607182418800017408 ≤ 0) = true := decide_eq_true ofull
          have hleft : left (W : Int) lim = lim - W := by
            exact left_val (by omega) (by omega) (by omega)
          have dleft : decide (left (W : Int) lim < (E : Int)) = true := decide_eq_true (by rw [hleft]; omega)
          have a1 := u49 ((Q + 1 : Nat) : Int)
          rw [alarm_is f1 f2 (by omega), decide_eq_true (by omega)] at a1
          by_cases hq0 : Q = 0
          · have dq : decide ((Q : Int) = 0) = true := decide_eq_true (by omega)
            simp only [outs_some, h1, h11, h13, h20, h21, h22, op2, oq2, U16, U58 L f1, hfl, hti, w1, wE, a1, dq, dfull, dleft, U24, U55, decide_true, Bool.not_true, rwA, rwB, Nat.reduceAdd, Nat.reduceMul, Nat.reduceLeDiff, Int.reduceEq, Int.reduceLT, Int.reduceLE, Int.reduceAdd, Int.reduceSub, Int.reduceMul, ↓reduceIte, Nat.reduceEqDiff, reduceCtorEq, ↓cnd_true, ↓cnd_false]
          · have dq : decide ((Q : Int) = 0) = false := decide_eq_false (by omega)
            have w2 : IntKind.i64.wrap ((Q : Int) - 1) = ((Q - 1 : Nat) : Int) := by rw [wrap_i64]; omega
            have a2 := u49 ((Q - 1 : Nat) : Int)
            have hone := Fl.one_pos
            have hlt : ¬ Fl.u (Fl.rg L) ≤ (Q - 1) * Fl.one := by
              have : (Q - 1) * Fl.one < Q * Fl.one := Nat.mul_lt_mul_of_pos_right (by omega) hone
              omega
            rw [alarm_is f1 f2 (by omega), decide_eq_false hlt] at a2
            simp only [outs_some, h1, h11, h13, h20, h21, h22, op2, oq2, U16, U58 L f1, hfl, hti, w1, w2, wE, a1, a2, dq, dfull, dleft, U24, U55, decide_true, Bool.not_true, Bool.not_false, rwA, rwB, Nat.reduceAdd, Nat.reduceMul, Nat.reduceLeDiff, Int.reduceEq, Int.reduceLT, Int.reduceLE, Int.reduceAdd, Int.reduceSub, Int.reduceMul, ↓reduceIte, Nat.reduceEqDiff, reduceCtorEq, ↓cnd_true, ↓cnd_false]

theorem law13 (H : AHeap) (args : List AVal) (dats : List Dat) (h : AArgs Try.prog H [87, 87, 88, 5, 3] args dats) : ∃ k H', acall A k 13 args H = some (.bool true, H') := by
  obtain ⟨v0, r, d0, ds, rfl, rfl, h0, h⟩ := args_cons h
  obtain ⟨v1, r, d1, ds, rfl, rfl, h1, h⟩ := args_cons h
  obtain ⟨v2, r, d2, ds, rfl, rfl, h2, h⟩ := args_cons h
  obtain ⟨v3, r, d3, ds, rfl, rfl, h3, h⟩ := args_cons h
  obtain ⟨v4, r, d4, ds, rfl, rfl, h4, h⟩ := args_cons h
  obtain rfl := args_nil h
  obtain ⟨b, rfl, _, b1, b2⟩ := arg_int Try.underlying87 h0
  obtain ⟨e, rfl, _, e1, e2⟩ := arg_int Try.underlying87 h1
  obtain ⟨l, rfl, _, l1, l2⟩ := arg_int Try.underlying88 h2
  obtain ⟨t, rfl, _, t1, t2⟩ := arg_int Try.underlying5 h3
  obtain ⟨r, rfl, _⟩ := arg_int Try.underlying3 h4
  simp [IntKind.min, IntKind.max, IntKind.signed, IntKind.bits] at b1 b2 e1 e2 l1 l2 t1 t2
  obtain ⟨H', hr⟩ := run13 b e l t r ⟨b1, by omega⟩ ⟨e1, by omega⟩ ⟨l1, by omega⟩ ⟨t1, by omega⟩ H
  obtain ⟨k, hk⟩ := AC_iff.1 hr
  exact ⟨k, H', hk⟩

end Go.Proofs.Ytfpbmoiconopcaa.Gh
