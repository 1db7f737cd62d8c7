/- HistoryLast: the outer round, where the point may be put. -/
import Derived.Test.YtfpbmoiconopcaaGhO
set_option maxRecDepth 100000
set_option linter.unusedSimpArgs false
set_option linter.unusedVariables false
set_option maxHeartbeats 4000000
namespace Go.Proofs.Ytfpbmoiconopcaa.Gh
open Go Go.Proofs.Ytfpbmoiconopcaa.Am GaFns Go.RowKit

theorem round9t {s : AVal} {ps : List (Int × Int)} {p j : Nat} {r : Int} {env : Env} {K : AHeap} {v hs : AVal} {all : List (Int × Int)} (hr : 1 ≤ r ∧ r ≤ 64) (h : J9 s ps p r j env K v hs all) (hlt : j < ps.length) (h200 : ps.length ≤ 200) (hm : may9 all ps[j].1 ps[j].2 = true) :
    Outs (AX A b9 env K) fun e env' K' => e = .normal ∧ ∃ v' hs' all', J9 s ps p r (j + 1) env' K' v' hs' all' := by
  obtain ⟨e0, e5, e7, e47, e48, e49, op, hp, hs', hsi, hv, hvi, hh, hhi, hhc, hg, hl, hj⟩ := h
  obtain ⟨id, off, cap, g, l, own, et, ho, hkk, hall⟩ := pts_at hs' (by omega)
  have d1 : decide ((j : Int) < (ps.length : Int)) = true := by simp; omega
  have w1 : IntKind.i64.wrap ((j : Int) + 1) = ((j + 1 : Nat) : Int) := by rw [wrap_i64]; omega
  have ha : aidx ps.length (.int .i64 (j : Int)) = some j := by simp [aidx]; omega
  obtain ⟨g1, _, _⟩ := hall j hlt
  obtain ⟨⟨x, y⟩, exy⟩ : ∃ q, ps[j] = q := ⟨_, rfl⟩
  rw [exy] at g1 hm
  subst et
  obtain ⟨N, eN⟩ : ∃ N, K.next = N := ⟨_, rfl⟩
  obtain ⟨K1, eK1⟩ : ∃ X, (K.new (.cells [.int .i64 0, .int .i64 0] true)).set N (.cells [.int .i64 x, .int .i64 y] true) = X := ⟨_, rfl⟩
  have nK1 : K1.next = N + 1 := by rw [← eK1, ← eN]; rfl
  have oK1 : K1.obj N = some (.cells [.int .i64 x, .int .i64 y] true) := by rw [← eK1]; simp [AHeap.set]
  have kK1 : Keeps K K1 := ⟨by omega, fun i hi => by rw [← eK1]; simp only [set_obj, new_obj]; rw [if_neg (by omega), if_neg (by omega)]⟩
  obtain ⟨K2, eK2⟩ : ∃ X, (K1.new (.cells [.int .i64 0, .int .i64 0] true)).set (N + 1) (.cells [.int .i64 x, .int .i64 y] true) = X := ⟨_, rfl⟩
  have nK2 : K2.next = N + 2 := by rw [← eK2]; simp [set_next, new_next, nK1]
  have oK2 : K2.obj (N + 1) = some (.cells [.int .i64 x, .int .i64 y] true) := by rw [← eK2]; simp [AHeap.set]
  have kK2 : Keeps K1 K2 := ⟨by omega, fun i hi => by rw [← eK2]; simp only [set_obj, new_obj, nK1]; rw [if_neg (by omega), if_neg (by omega)]⟩
  have k02 := kK1.trans kK2
  have op2 : K2.obj p = some (.cells [.int .i64 r, hs] true) := by rw [k02.2 p hp]; exact op
  have hh2 := hh.keep (fun i hi => (hhi i hi).2.1) k02
  have u36 := U36t (r := r) hh2 (fun i hi => by have := (hhi i hi).2.1; omega) x y (by rw [may_is hr hg]; exact hm)
  rw [lastN_kept hr.1, nK2] at u36
  obtain ⟨L, eL⟩ : ∃ L, lastN r.toNat (all ++ [(x, y)]) = L := ⟨_, rfl⟩
  rw [eL] at u36
  obtain ⟨m, em⟩ : ∃ m, L.length = m := ⟨_, rfl⟩
  rw [em] at u36
  have hm1 : 1 ≤ m ∧ m ≤ 64 := by rw [← em, ← eL, lastN_len]; simp; omega
  obtain ⟨K3, eK3⟩ : ∃ X, K2.new (.cells (PS L) true) = X := ⟨_, rfl⟩
  rw [eK3] at u36
  have nK3 : K3.next = N + 3 := by rw [← eK3]; simp [new_next, nK2]
  have kK3 : Keeps K2 K3 := by rw [← eK3]; exact Keeps.new _ _
  have oL3 : K3.obj (N + 2) = some (.cells (PS L) true) := by rw [← eK3]; simp [new_obj, nK2]
  obtain ⟨K4, eK4⟩ : ∃ X, (K3.new (.cells [.int .i64 0, .nils] true)).set (N + 3) (.cells [.int .i64 r, .slice (N + 2) 0 m m (some 2)] true) = X := ⟨_, rfl⟩
  have nK4 : K4.next = N + 4 := by rw [← eK4]; simp [set_next, new_next, nK3]
  have kK4 : Keeps K3 K4 := ⟨by omega, fun i hi => by rw [← eK4]; simp only [set_obj, new_obj, nK3]; rw [if_neg (by omega), if_neg (by omega)]⟩
  have k04 := (k02.trans kK3).trans kK4
  have o9 : K4.obj N = some (.cells [.int .i64 x, .int .i64 y] true) := by rw [kK4.2 _ (by omega), kK3.2 _ (by omega), kK2.2 _ (by omega)]; exact oK1
  have o10 : K4.obj (N + 1) = some (.cells [.int .i64 x, .int .i64 y] true) := by rw [kK4.2 _ (by omega), kK3.2 _ (by omega)]; exact oK2
  have o11 : K4.obj (N + 3) = some (.cells [.int .i64 r, .slice (N + 2) 0 m m (some 2)] true) := by rw [← eK4]; simp [AHeap.set]
  have oL4 : K4.obj (N + 2) = some (.cells (PS L) true) := by rw [kK4.2 _ (by omega)]; exact oL3
  have op4 : K4.obj p = some (.cells [.int .i64 r, hs] true) := by rw [k04.2 p hp]; exact op
  have hv4 : Ow K4 2 v (PS all) := hv.keeps k04.1 fun i hi => k04.2 i (hv.lt i hi)
  have hvN : ∀ i, i ∈ v.ids → i < N := fun i hi => by have := hv.lt i hi; omega
  obtain ⟨K5, ap, oN5, nK5, kK5⟩ := bp_push (.inl hv4) x y (by omega)
  rw [nK4] at ap oN5 nK5 kK5
  have op5 : K5.obj p = some (.cells [.int .i64 r, hs] true) := by rw [kK5 p (by omega) (fun hx => by have := hvi p hx; omega)]; exact op4
  have o11' : K5.obj (N + 3) = some (.cells [.int .i64 r, .slice (N + 2) 0 m m (some 2)] true) := by rw [kK5 _ (by omega) (fun hx => by have := hvN _ hx; omega)]; exact o11
  have oL5 : K5.obj (N + 2) = some (.cells (PS L) true) := by rw [kK5 _ (by omega) (fun hx => by have := hvN _ hx; omega)]; exact oL4
  obtain ⟨K6, eK6⟩ : ∃ X, K5.set p (.cells [.int .i64 r, .slice (N + 2) 0 m m (some 2)] true) = X := ⟨_, rfl⟩
  have nK6 : K6.next = N + 6 := by rw [← eK6]; simp [set_next, nK5]
  have s6 : ∀ i, i ≠ p → K6.obj i = K5.obj i := fun i hi => by rw [← eK6, set_obj, if_neg hi]
  have op6 : K6.obj p = some (.cells [.int .i64 r, .slice (N + 2) 0 m m (some 2)] true) := by rw [← eK6]; simp [AHeap.set]
  obtain ⟨all', ea⟩ : ∃ all', all ++ [(x, y)] = all' := ⟨_, rfl⟩
  rw [ea] at eL oN5
  have la : all'.length = all.length + 1 := by rw [← ea]; simp
  have hv6 : Ow K6 2 (.slice (N + 5) 0 (all.length + 1) (all.length + 1) (some 2)) (PS all') := .inr ⟨_, _, rfl, by rw [PS_len, la], by omega, by rw [s6 _ (by omega)]; exact oN5, by omega⟩
  have hh6 : Sl K6 2 (.slice (N + 2) 0 m m (some 2)) (PS (lastN r.toNat all')) := by
    rw [eL]
    exact .inr ⟨_, _, _, _, _, rfl, by rw [PS_len, em], .inr ⟨_, true, by rw [s6 _ (by omega)]; exact oL5, by rw [PS_len, em]; omega, by rw [List.drop_zero, List.take_of_length_le (by rw [PS_len, em]; omega)]⟩⟩
  have hsl6 : Sl K6 2 (.slice id off ps.length cap g) (PS ps) := hs'.keeps fun i hi => by
    have := hsi i hi
    rw [s6 i (by omega), kK5 i (by omega) (fun hx => by have := hvi i hx; omega), k04.2 i (by omega)]
  have hm' : (0 ≤ x ∧ x ≤ 1125899906842624) ∧ (0 ≤ y ∧ y ≤ 1125899906842624) ∧ (all.length = 0 ∨ (lastP all).1 < x) := by
    unfold may9 okp cnt at hm
    simp only [Bool.and_eq_true, Bool.or_eq_true, decide_eq_true_eq] at hm
    exact ⟨hm.1.1, hm.1.2, hm.2⟩
  have hg' : Good all' := by
    rw [← ea]
    refine hg.push ?_ hm'.2.2
    unfold okp cnt
    simp only [Bool.and_eq_true, decide_eq_true_eq]
    exact ⟨hm'.1, hm'.2.1⟩
  have c1 : decide (0 ≤ x) = true := decide_eq_true hm'.1.1
  have c2 : decide (x ≤ 1125899906842624) = true := decide_eq_true hm'.1.2
  have c3 : decide (0 ≤ y) = true := decide_eq_true hm'.2.1.1
  have c4 : decide (y ≤ 1125899906842624) = true := decide_eq_true hm'.2.1.2
  have lv := PS_alen hv4.sl
  have n35 : ((N + 3 : Nat) = N + 4) = False := by simp
  have key : ∀ env2 : Env, env2 0 = .int .i64 r → env2 5 = .ptr p 0 → env2 7 = .slice (N + 5) 0 (all.length + 1) (all.length + 1) (some 2) → _ := fun env2 => tail9 (env := env2) (K := K6) op6 (by omega) hv6.sl hv6.lt hh6 (fun i hi => by simp [AVal.ids] at hi; omega) (.inr ⟨_, _, _, _, _, rfl⟩) (by omega) hr hg'
  have fin : ∀ (env1 env' : Env) (K' : AHeap), Keeps K6 K' → (∀ i, i < 109 → i ≠ 14 → i ≠ 15 → env' i = env1 i) → env1 0 = .int .i64 r → env1 5 = .ptr p 0 → env1 7 = .slice (N + 5) 0 (all.length + 1) (all.length + 1) (some 2) → env1 47 = .slice id off ps.length cap g → env1 48 = .int .i64 (ps.length : Int) → env1 49 = .int .i64 (j : Int) →
      ∃ v' hs' all', J9 (.slice id off ps.length cap g) ps p r (j + 1) (Env.set (Env.set env' 144 (.int .i64 ((j + 1 : Nat) : Int))) 49 (.int .i64 ((j + 1 : Nat) : Int))) K' v' hs' all' := by
    intro env1 env' K' hk hE a0 a5 a7 a47 a48 a49
    refine ⟨_, _, all', by simp [Env.set, hE, a0], by simp [Env.set, hE, a5], by simp [Env.set, hE, a7], by simp [Env.set, hE, a47], by simp [Env.set, hE, a48], by simp [Env.set], by rw [hk.2 p (by omega)]; exact op6, by have := hk.1; omega, hsl6.keep (fun i hi => by have := hsi i hi; omega) hk, hsi, hv6.keeps hk.1 (fun i hi => hk.2 i (hv6.lt i hi)), fun i hi => by simp [AVal.ids] at hi; omega, hh6.keep (fun i hi => by simp [AVal.ids] at hi; omega) hk, fun i hi => ?_, .inr ⟨_, _, _, _, _, rfl⟩, hg', by omega, by omega⟩
    simp [AVal.ids] at hi ⊢
    have := hk.1
    omega
  rw [b9_cut]
  by_cases n0 : all.length = 0
  · have dn : decide ((all.length : Int) = 0) = true := decide_eq_true (by omega)
    rcases hhc with rfl | ⟨q1, q2, q3, q4, q5, rfl⟩
    all_goals
      simp only [wrap9, upto, blk9, b9, e0, e5, e7, e47, e48, e49, d1, w1, ha, ho, g1, eN, eK1, nK1, oK1, eK2, nK2, oK2, op2, u36, eK4, nK3, nK4, o9, o10, o11, op4, lv, ap, op5, o11', eK6, n35, c1, c2, c3, c4, dn, if_false, Bool.not_true, Bool.not_false, Bool.false_and, rwA, rwB, Nat.reduceAdd, Nat.reduceMul, Nat.reduceLeDiff, Int.reduceEq, Int.reduceLT, Int.reduceLE, Int.reduceAdd, Int.reduceSub, Int.reduceMul, ↓reduceIte, Nat.reduceEqDiff, reduceCtorEq, ↓cnd_true, ↓cnd_false]
      repeat (first | refine outs_seq ?_ | refine outs_block ?_ | refine outs_step ?_ | refine outs_stepD ?_ | refine rets_end ?_ | refine ans_end ?_)
      refine (key _ ?_ ?_ ?_).mono ?_
      · simp [Env.set, e0]
      · simp [Env.set, e5]
      · simp [Env.set, e7]
      · rintro e env' K' ⟨rfl, hk, hE⟩
        have a49 : env' 49 = .int .i64 (j : Int) := by rw [hE 49 (by omega) (by omega) (by omega)]; simp [Env.set, e49]
        simp only [outs_some, a49, w1, rwA, rwB, Nat.reduceAdd, Nat.reduceMul, Nat.reduceLeDiff, Int.reduceEq, Int.reduceLT, Int.reduceLE, Int.reduceAdd, Int.reduceSub, Int.reduceMul, ↓reduceIte, Nat.reduceEqDiff, reduceCtorEq, ↓cnd_true, ↓cnd_false]
        exact ⟨trivial, fin _ env' K' hk hE (by simp [Env.set, e0]) (by simp [Env.set, e5]) (by simp [Env.set, e7]) (by simp [Env.set, e47]) (by simp [Env.set, e48]) (by simp [Env.set, e49])⟩
  · have dn : decide ((all.length : Int) = 0) = false := decide_eq_false (by omega)
    have c5 : decide ((lastP all).1 < x) = true := decide_eq_true (hm'.2.2.resolve_left n0)
    obtain ⟨id2, off2, cap2, gg2, l2, own2, et2, ho2, hkk2, hall2⟩ := pts_at hv4.sl (by omega)
    have hi2 : all.length - 1 < all.length := by omega
    obtain ⟨_, g2, _⟩ := hall2 (all.length - 1) hi2
    have el : all[all.length - 1] = lastP all := (at0_get hi2).symm
    rw [el] at g2
    have w2 : IntKind.i64.wrap ((all.length : Int) - 1) = ((all.length - 1 : Nat) : Int) := by rw [wrap_i64]; omega
    have ha2 : aidx all.length (.int .i64 ((all.length - 1 : Nat) : Int)) = some (all.length - 1) := by simp [aidx]; omega
    subst et2
    rcases hhc with rfl | ⟨q1, q2, q3, q4, q5, rfl⟩
    all_goals
      simp only [wrap9, upto, blk9, b9, e0, e5, e7, e47, e48, e49, d1, w1, ha, ho, g1, eN, eK1, nK1, oK1, eK2, nK2, oK2, op2, u36, eK4, nK3, nK4, o9, o10, o11, op4, lv, ap, op5, o11', eK6, n35, c1, c2, c3, c4, dn, w2, ha2, ho2, g2, c5, if_false, Bool.not_true, Bool.not_false, Bool.false_and, rwA, rwB, Nat.reduceAdd, Nat.reduceMul, Nat.reduceLeDiff, Int.reduceEq, Int.reduceLT, Int.reduceLE, Int.reduceAdd, Int.reduceSub, Int.reduceMul, ↓reduceIte, Nat.reduceEqDiff, reduceCtorEq, ↓cnd_true, ↓cnd_false]
      repeat (first | refine outs_seq ?_ | refine outs_block ?_ | refine outs_step ?_ | refine outs_stepD ?_ | refine rets_end ?_ | refine ans_end ?_)
      refine (key _ ?_ ?_ ?_).mono ?_
      · simp [Env.set, e0]
      · simp [Env.set, e5]
      · simp [Env.set, e7]
      · rintro e env' K' ⟨rfl, hk, hE⟩
        have a49 : env' 49 = .int .i64 (j : Int) := by rw [hE 49 (by omega) (by omega) (by omega)]; simp [Env.set, e49]
        simp only [outs_some, a49, w1, rwA, rwB, Nat.reduceAdd, Nat.reduceMul, Nat.reduceLeDiff, Int.reduceEq, Int.reduceLT, Int.reduceLE, Int.reduceAdd, Int.reduceSub, Int.reduceMul, ↓reduceIte, Nat.reduceEqDiff, reduceCtorEq, ↓cnd_true, ↓cnd_false]
        exact ⟨trivial, fin _ env' K' hk hE (by simp [Env.set, e0]) (by simp [Env.set, e5]) (by simp [Env.set, e7]) (by simp [Env.set, e47]) (by simp [Env.set, e48]) (by simp [Env.set, e49])⟩

end Go.Proofs.Ytfpbmoiconopcaa.Gh
