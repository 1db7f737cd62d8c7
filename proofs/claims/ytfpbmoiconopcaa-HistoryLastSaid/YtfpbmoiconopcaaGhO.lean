/- HistoryLast: the outer round, by what may be put. -/
import Derived.Test.YtfpbmoiconopcaaGhN
set_option maxRecDepth 100000
set_option linter.unusedSimpArgs false
set_option linter.unusedVariables false
set_option maxHeartbeats 4000000
namespace Go.Proofs.Ytfpbmoiconopcaa.Gh
open Go Go.Proofs.Ytfpbmoiconopcaa.Am GaFns Go.RowKit

structure J9 (s : AVal) (ps : List (Int × Int)) (p : Nat) (r : Int) (j : Nat) (env : Env) (K : AHeap) (v hs : AVal) (all : List (Int × Int)) : Prop where
  e0 : env 0 = .int .i64 r
  e5 : env 5 = .ptr p 0
  e7 : env 7 = v
  e47 : env 47 = s
  e48 : env 48 = .int .i64 (ps.length : Int)
  e49 : env 49 = .int .i64 (j : Int)
  op : K.obj p = some (.cells [.int .i64 r, hs] true)
  hp : p < K.next
  hsl : Sl K 2 s (PS ps)
  hsi : ∀ i, i ∈ s.ids → i < p
  hv : Ow K 2 v (PS all)
  hvi : ∀ i, i ∈ v.ids → p < i
  hh : Sl K 2 hs (PS (lastN r.toNat all))
  hhi : ∀ i, i ∈ hs.ids → p < i ∧ i < K.next ∧ i ∉ v.ids
  hhc : hs = .nils ∨ ∃ a b c d e, hs = .slice a b c d e
  hg : Good all
  hl : all.length ≤ j
  hj : j ≤ ps.length

/-- What may not be put. -/
theorem round9f {s : AVal} {ps : List (Int × Int)} {p j : Nat} {r : Int} {env : Env} {K : AHeap} {v hs : AVal} {all : List (Int × Int)} (hr : 1 ≤ r ∧ r ≤ 64) (h : J9 s ps p r j env K v hs all) (hlt : j < ps.length) (h200 : ps.length ≤ 200) (hm : may9 all ps[j].1 ps[j].2 = false) :
    Outs (AX A b9 env K) fun e env' K' => e = .normal ∧ J9 s ps p r (j + 1) env' K' v hs all := by
  obtain ⟨e0, e5, e7, e47, e48, e49, op, hp, hs', hsi, hv, hvi, hh, hhi, hhc, hg, hl, hj⟩ := h
  obtain ⟨id, off, cap, g, l, own, et, ho, hkk, hall⟩ := pts_at hs' (by omega)
  have d1 : decide ((j : Int) < (ps.length : Int)) = true := by simp; omega
  have w1 : IntKind.i64.wrap ((j : Int) + 1) = ((j + 1 : Nat) : Int) := by rw [wrap_i64]; omega
  have ha : aidx ps.length (.int .i64 (j : Int)) = some j := by simp [aidx]; omega
  obtain ⟨g1, _, _⟩ := hall j hlt
  obtain ⟨⟨x, y⟩, exy⟩ : ∃ q, ps[j] = q := ⟨_, rfl⟩
  rw [exy] at g1 hm
  subst et
  obtain ⟨K1, eK1⟩ : ∃ X, (K.new (.cells [.int .i64 0, .int .i64 0] true)).set K.next (.cells [.int .i64 x, .int .i64 y] true) = X := ⟨_, rfl⟩
  have nK1 : K1.next = K.next + 1 := by rw [← eK1]; rfl
  have oK1 : K1.obj K.next = some (.cells [.int .i64 x, .int .i64 y] true) := by rw [← eK1]; simp [AHeap.set]
  have kK1 : Keeps K K1 := ⟨by omega, fun i hi => by rw [← eK1]; simp only [set_obj, new_obj]; rw [if_neg (by omega), if_neg (by omega)]⟩
  obtain ⟨K2, eK2⟩ : ∃ X, (K1.new (.cells [.int .i64 0, .int .i64 0] true)).set (K.next + 1) (.cells [.int .i64 x, .int .i64 y] true) = X := ⟨_, rfl⟩
  have nK2 : K2.next = K.next + 2 := by rw [← eK2]; simp [set_next, new_next, nK1]
  have oK2 : K2.obj (K.next + 1) = some (.cells [.int .i64 x, .int .i64 y] true) := by rw [← eK2]; simp [AHeap.set]
  have kK2 : Keeps K1 K2 := ⟨by omega, fun i hi => by rw [← eK2]; simp only [set_obj, new_obj, nK1]; rw [if_neg (by omega), if_neg (by omega)]⟩
  have k02 := kK1.trans kK2
  have op2 : K2.obj p = some (.cells [.int .i64 r, hs] true) := by rw [k02.2 p hp]; exact op
  have hh2 := hh.keep (fun i hi => (hhi i hi).2.1) k02
  have u36 := U36f (r := r) hh2 (fun i hi => by have := (hhi i hi).2.1; omega) (by rw [lastN_len]; omega) x y (by rw [may_is hr hg]; exact hm)
  obtain ⟨K3, eK3⟩ : ∃ X, (K2.new (.cells [.int .i64 0, .nils] true)).set (K.next + 2) (.cells [.int .i64 0, .nils] true) = X := ⟨_, rfl⟩
  have nK3 : K3.next = K.next + 3 := by rw [← eK3]; simp [set_next, new_next, nK2]
  have kK3 : Keeps K2 K3 := ⟨by omega, fun i hi => by rw [← eK3]; simp only [set_obj, new_obj, nK2]; rw [if_neg (by omega), if_neg (by omega)]⟩
  have k03 := k02.trans kK3
  have o9 : K3.obj K.next = some (.cells [.int .i64 x, .int .i64 y] true) := by rw [kK3.2 _ (by omega), kK2.2 _ (by omega)]; exact oK1
  have op3 : K3.obj p = some (.cells [.int .i64 r, hs] true) := by rw [k03.2 p hp]; exact op
  have hv3 : Ow K3 2 v (PS all) := hv.keeps k03.1 fun i hi => k03.2 i (hv.lt i hi)
  have hh3 := hh.keep (fun i hi => (hhi i hi).2.1) k03
  have lv := PS_alen hv3.sl
  have dz : decide ((18 : Int) = 0) = false := by decide
  have key : ∀ env2 : Env, env2 0 = .int .i64 r → env2 5 = .ptr p 0 → env2 7 = v → _ := fun env2 => tail9 (env := env2) (K := K3) op3 (by omega) hv3.sl hv3.lt hh3 (fun i hi => by have := (hhi i hi).2.1; omega) hhc (by omega) hr hg
  have fin : ∀ (env1 env' : Env) (K' : AHeap), Keeps K3 K' → (∀ i, i < 109 → i ≠ 14 → i ≠ 15 → env' i = env1 i) → env1 0 = .int .i64 r → env1 5 = .ptr p 0 → env1 7 = v → env1 47 = .slice id off ps.length cap g → env1 48 = .int .i64 (ps.length : Int) → env1 49 = .int .i64 (j : Int) →
      J9 (.slice id off ps.length cap g) ps p r (j + 1) (Env.set (Env.set env' 144 (.int .i64 ((j + 1 : Nat) : Int))) 49 (.int .i64 ((j + 1 : Nat) : Int))) K' v hs all := by
    intro env1 env' K' hk hE a0 a5 a7 a47 a48 a49
    have k0 := k03.trans hk
    refine ⟨by simp [Env.set, hE, a0], by simp [Env.set, hE, a5], by simp [Env.set, hE, a7], by simp [Env.set, hE, a47], by simp [Env.set, hE, a48], by simp [Env.set], by rw [k0.2 p hp]; exact op, by have := k0.1; omega, hs'.keep (fun i hi => by have := hsi i hi; omega) k0, hsi, hv.keeps k0.1 (fun i hi => k0.2 i (hv.lt i hi)), hvi, hh.keep (fun i hi => (hhi i hi).2.1) k0, fun i hi => ⟨(hhi i hi).1, by have := (hhi i hi).2.1; have := k0.1; omega, (hhi i hi).2.2⟩, hhc, hg, by omega, by omega⟩
  have done : ∀ c1 c2 c3 c4 : Bool, decide (0 ≤ x) = c1 → decide (x ≤ 1125899906842624) = c2 → decide (0 ≤ y) = c3 → decide (y ≤ 1125899906842624) = c4 → (c1 = true → c2 = true → c3 = true → c4 = true → all.length ≠ 0 ∧ decide ((lastP all).1 < x) = false) → True := fun _ _ _ _ _ _ _ _ _ => trivial
  have hc : (decide (0 ≤ x) = true → decide (x ≤ 1125899906842624) = true → decide (0 ≤ y) = true → decide (y ≤ 1125899906842624) = true → all.length ≠ 0 ∧ decide ((lastP all).1 < x) = false) := by
    intro a b c d
    unfold may9 okp cnt at hm
    simp only [a, b, c, d, Bool.and_self, Bool.true_and, Bool.or_eq_false_iff, decide_eq_false_iff_not] at hm
    exact ⟨hm.1, decide_eq_false hm.2⟩
  rw [b9_cut]
  cases c1 : decide (0 ≤ x)
  case false =>
    rcases hhc with rfl | ⟨q1, q2, q3, q4, q5, rfl⟩
    all_goals
      simp only [wrap9, upto, blk9, b9, e0, e5, e7, e47, e48, e49, d1, w1, ha, ho, g1, eK1, nK1, oK1, eK2, nK2, oK2, op2, u36, eK3, nK3, o9, op3, lv, dz, c1, Bool.not_true, Bool.not_false, Bool.false_and, rwA, rwB, Nat.reduceAdd, Nat.reduceMul, Nat.reduceLeDiff, Int.reduceEq, Int.reduceLT, Int.reduceLE, Int.reduceAdd, Int.reduceSub, Int.reduceMul, ↓reduceIte, Nat.reduceEqDiff, reduceCtorEq, ↓cnd_true, ↓cnd_false]
      repeat (first | refine outs_seq ?_ | refine outs_block ?_ | refine outs_step ?_ | refine outs_stepD ?_ | refine rets_end ?_ | refine ans_end ?_)
      refine (key _ ?_ ?_ ?_).mono ?_
      · simp [Env.set, e0]
      · simp [Env.set, e5]
      · simp [Env.set, e7]
      · rintro e env' K' ⟨rfl, hk, hE⟩
        have a49 : env' 49 = .int .i64 (j : Int) := by rw [hE 49 (by omega) (by omega) (by omega)]; simp [Env.set, e49]
        simp only [outs_some, a49, w1, rwA, rwB, Nat.reduceAdd, Nat.reduceMul, Nat.reduceLeDiff, Int.reduceEq, Int.reduceLT, Int.reduceLE, Int.reduceAdd, Int.reduceSub, Int.reduceMul, ↓reduceIte, Nat.reduceEqDiff, reduceCtorEq, ↓cnd_true, ↓cnd_false]
        exact ⟨trivial, fin _ env' K' hk hE (by simp [Env.set, e0]) (by simp [Env.set, e5]) (by simp [Env.set, e7]) (by simp [Env.set, e47]) (by simp [Env.set, e48]) (by simp [Env.set, e49])⟩
  case true =>
  cases c2 : decide (x ≤ 1125899906842624)
  case false =>
    rcases hhc with rfl | ⟨q1, q2, q3, q4, q5, rfl⟩
    all_goals
      simp only [wrap9, upto, blk9, b9, e0, e5, e7, e47, e48, e49, d1, w1, ha, ho, g1, eK1, nK1, oK1, eK2, nK2, oK2, op2, u36, eK3, nK3, o9, op3, lv, dz, c1, c2, Bool.not_true, Bool.not_false, Bool.false_and, rwA, rwB, Nat.reduceAdd, Nat.reduceMul, Nat.reduceLeDiff, Int.reduceEq, Int.reduceLT, Int.reduceLE, Int.reduceAdd, Int.reduceSub, Int.reduceMul, ↓reduceIte, Nat.reduceEqDiff, reduceCtorEq, ↓cnd_true, ↓cnd_false]
      repeat (first | refine outs_seq ?_ | refine outs_block ?_ | refine outs_step ?_ | refine outs_stepD ?_ | refine rets_end ?_ | refine ans_end ?_)
      refine (key _ ?_ ?_ ?_).mono ?_
      · simp [Env.set, e0]
      · simp [Env.set, e5]
      · simp [Env.set, e7]
      · rintro e env' K' ⟨rfl, hk, hE⟩
        have a49 : env' 49 = .int .i64 (j : Int) := by rw [hE 49 (by omega) (by omega) (by omega)]; simp [Env.set, e49]
        simp only [outs_some, a49, w1, rwA, rwB, Nat.reduceAdd, Nat.reduceMul, Nat.reduceLeDiff, Int.reduceEq, Int.reduceLT, Int.reduceLE, Int.reduceAdd, Int.reduceSub, Int.reduceMul, ↓reduceIte, Nat.reduceEqDiff, reduceCtorEq, ↓cnd_true, ↓cnd_false]
        exact ⟨trivial, fin _ env' K' hk hE (by simp [Env.set, e0]) (by simp [Env.set, e5]) (by simp [Env.set, e7]) (by simp [Env.set, e47]) (by simp [Env.set, e48]) (by simp [Env.set, e49])⟩
  case true =>
  cases c3 : decide (0 ≤ y)
  case false =>
    rcases hhc with rfl | ⟨q1, q2, q3, q4, q5, rfl⟩
    all_goals
      simp only [wrap9, upto, blk9, b9, e0, e5, e7, e47, e48, e49, d1, w1, ha, ho, g1, eK1, nK1, oK1, eK2, nK2, oK2, op2, u36, eK3, nK3, o9, op3, lv, dz, c1, c2, c3, Bool.not_true, Bool.not_false, Bool.false_and, rwA, rwB, Nat.reduceAdd, Nat.reduceMul, Nat.reduceLeDiff, Int.reduceEq, Int.reduceLT, Int.reduceLE, Int.reduceAdd, Int.reduceSub, Int.reduceMul, ↓reduceIte, Nat.reduceEqDiff, reduceCtorEq, ↓cnd_true, ↓cnd_false]
      repeat (first | refine outs_seq ?_ | refine outs_block ?_ | refine outs_step ?_ | refine outs_stepD ?_ | refine rets_end ?_ | refine ans_end ?_)
      refine (key _ ?_ ?_ ?_).mono ?_
      · simp [Env.set, e0]
      · simp [Env.set, e5]
      · simp [Env.set, e7]
      · rintro e env' K' ⟨rfl, hk, hE⟩
        have a49 : env' 49 = .int .i64 (j : Int) := by rw [hE 49 (by omega) (by omega) (by omega)]; simp [Env.set, e49]
        simp only [outs_some, a49, w1, rwA, rwB, Nat.reduceAdd, Nat.reduceMul, Nat.reduceLeDiff, Int.reduceEq, Int.reduceLT, Int.reduceLE, Int.reduceAdd, Int.reduceSub, Int.reduceMul, ↓reduceIte, Nat.reduceEqDiff, reduceCtorEq, ↓cnd_true, ↓cnd_false]
        exact ⟨trivial, fin _ env' K' hk hE (by simp [Env.set, e0]) (by simp [Env.set, e5]) (by simp [Env.set, e7]) (by simp [Env.set, e47]) (by simp [Env.set, e48]) (by simp [Env.set, e49])⟩
  case true =>
  cases c4 : decide (y ≤ 1125899906842624)
  case false =>
    rcases hhc with rfl | ⟨q1, q2, q3, q4, q5, rfl⟩
    all_goals
      simp only [wrap9, upto, blk9, b9, e0, e5, e7, e47, e48, e49, d1, w1, ha, ho, g1, eK1, nK1, oK1, eK2, nK2, oK2, op2, u36, eK3, nK3, o9, op3, lv, dz, c1, c2, c3, c4, Bool.not_true, Bool.not_false, Bool.false_and, rwA, rwB, Nat.reduceAdd, Nat.reduceMul, Nat.reduceLeDiff, Int.reduceEq, Int.reduceLT, Int.reduceLE, Int.reduceAdd, Int.reduceSub, Int.reduceMul, ↓reduceIte, Nat.reduceEqDiff, reduceCtorEq, ↓cnd_true, ↓cnd_false]
      repeat (first | refine outs_seq ?_ | refine outs_block ?_ | refine outs_step ?_ | refine outs_stepD ?_ | refine rets_end ?_ | refine ans_end ?_)
      refine (key _ ?_ ?_ ?_).mono ?_
      · simp [Env.set, e0]
      · simp [Env.set, e5]
      · simp [Env.set, e7]
      · rintro e env' K' ⟨rfl, hk, hE⟩
        have a49 : env' 49 = .int .i64 (j : Int) := by rw [hE 49 (by omega) (by omega) (by omega)]; simp [Env.set, e49]
        simp only [outs_some, a49, w1, rwA, rwB, Nat.reduceAdd, Nat.reduceMul, Nat.reduceLeDiff, Int.reduceEq, Int.reduceLT, Int.reduceLE, Int.reduceAdd, Int.reduceSub, Int.reduceMul, ↓reduceIte, Nat.reduceEqDiff, reduceCtorEq, ↓cnd_true, ↓cnd_false]
        exact ⟨trivial, fin _ env' K' hk hE (by simp [Env.set, e0]) (by simp [Env.set, e5]) (by simp [Env.set, e7]) (by simp [Env.set, e47]) (by simp [Env.set, e48]) (by simp [Env.set, e49])⟩
  case true =>
    obtain ⟨n0, c5⟩ := hc c1 c2 c3 c4
    have dn : decide ((all.length : Int) = 0) = false := decide_eq_false (by omega)
    obtain ⟨id2, off2, cap2, gg2, l2, own2, et2, ho2, hkk2, hall2⟩ := pts_at hv3.sl (by omega)
    have hi2 : all.length - 1 < all.length := by omega
    obtain ⟨_, g2, _⟩ := hall2 (all.length - 1) hi2
    have el : all[all.length - 1] = lastP all := (at0_get hi2).symm
    rw [el] at g2
    have w2 : IntKind.i64.wrap ((all.length : Int) - 1) = ((all.length - 1 : Nat) : Int) := by rw [wrap_i64]; omega
    have ha2 : aidx all.length (.int .i64 ((all.length - 1 : Nat) : Int)) = some (all.length - 1) := by simp [aidx]; omega
    subst et2
    rcases hhc with rfl | ⟨q1, q2, q3, q4, q5, rfl⟩
    all_goals
      simp only [wrap9, upto, blk9, b9, e0, e5, e7, e47, e48, e49, d1, w1, ha, ho, g1, eK1, nK1, oK1, eK2, nK2, oK2, op2, u36, eK3, nK3, o9, op3, lv, dz, c1, c2, c3, c4, dn, w2, ha2, ho2, g2, c5, Bool.not_true, Bool.not_false, Bool.false_and, rwA, rwB, Nat.reduceAdd, Nat.reduceMul, Nat.reduceLeDiff, Int.reduceEq, Int.reduceLT, Int.reduceLE, Int.reduceAdd, Int.reduceSub, Int.reduceMul, ↓reduceIte, Nat.reduceEqDiff, reduceCtorEq, ↓cnd_true, ↓cnd_false]
      repeat (first | refine outs_seq ?_ | refine outs_block ?_ | refine outs_step ?_ | refine outs_stepD ?_ | refine rets_end ?_ | refine ans_end ?_)
      refine (key _ ?_ ?_ ?_).mono ?_
      · simp [Env.set, e0]
      · simp [Env.set, e5]
      · simp [Env.set, e7]
      · rintro e env' K' ⟨rfl, hk, hE⟩
        have a49 : env' 49 = .int .i64 (j : Int) := by rw [hE 49 (by omega) (by omega) (by omega)]; simp [Env.set, e49]
        simp only [outs_some, a49, w1, rwA, rwB, Nat.reduceAdd, Nat.reduceMul, Nat.reduceLeDiff, Int.reduceEq, Int.reduceLT, Int.reduceLE, Int.reduceAdd, Int.reduceSub, Int.reduceMul, ↓reduceIte, Nat.reduceEqDiff, reduceCtorEq, ↓cnd_true, ↓cnd_false]
        exact ⟨trivial, fin _ env' K' hk hE (by simp [Env.set, e0]) (by simp [Env.set, e5]) (by simp [Env.set, e7]) (by simp [Env.set, e47]) (by simp [Env.set, e48]) (by simp [Env.set, e49])⟩

end Go.Proofs.Ytfpbmoiconopcaa.Gh
