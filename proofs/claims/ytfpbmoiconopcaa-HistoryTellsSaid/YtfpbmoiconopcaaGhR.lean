/- Histories: the peaks. -/
import Derived.Test.YtfpbmoiconopcaaGhM
set_option maxRecDepth 100000
set_option linter.unusedSimpArgs false
set_option linter.unusedVariables false
set_option maxHeartbeats 4000000
namespace Go.Proofs.Ytfpbmoiconopcaa.Gh
open Go Go.Proofs.Ytfpbmoiconopcaa.Am GaFns Go.RowKit

def upP (ps : List (Int × Int)) (i : Nat) : Bool := decide (i = 0) || decide ((at0 ps (i - 1)).2 < (at0 ps i).2)
def dnP (ps : List (Int × Int)) (i : Nat) : Bool := decide (i = ps.length - 1) || decide ((at0 ps (i + 1)).2 ≤ (at0 ps i).2)
def pk (ps : List (Int × Int)) (i : Nat) : Bool := upP ps i && dnP ps i
def pki (ps : List (Int × Int)) (j : Nat) : List Nat := (List.range j).filter (pk ps)
def pks (ps : List (Int × Int)) (j : Nat) : List (Int × Int) := (pki ps j).map (at0 ps)
theorem pks_succ (ps : List (Int × Int)) (j : Nat) : pks ps (j + 1) = if pk ps j then pks ps j ++ [at0 ps j] else pks ps j := by
  unfold pks pki
  rw [List.range_succ, List.filter_append, List.map_append]
  by_cases h : pk ps j = true
  · simp [h]
  · simp [h]
theorem pks_len (ps : List (Int × Int)) (j : Nat) : (pks ps j).length ≤ j := by
  unfold pks pki
  rw [List.length_map]
  refine Nat.le_trans (List.length_filter_le _ _) ?_
  simp

def b50 : ACode := (.seq (.region [⟨(some 15), (.bin .lss (.tmp 14) (.tmp 13)), none, none⟩]) (.seq (.cond (.tmp 15) .skip (.exit 0)) (.seq (.block 1 (.seq (.region [⟨(some 16), (.mv (.tmp 14)), none, none⟩, ⟨(some 17), (.idxASl 2 (.tmp 12) (.tmp 14)), none, none⟩, ⟨(some 18), (.load true 2 (.tmp 17)), none, none⟩, ⟨(some 5), (.new [(.int .i64 0), (.int .i64 0)]), none, none⟩, ⟨(some 4), (.mv (.tmp 16)), none, none⟩, ⟨none, (.store 2 (.tmp 5) (.tmp 18)), none, none⟩]) (.seq (.draw [⟨(some 19), (.mv (.tmp 4)), none, none⟩, ⟨(some 20), (.bin .eql (.tmp 19) (.con (.int .i64 0))), none, none⟩, ⟨(some 21), (.mv (.tmp 20)), none, none⟩, ⟨(some 22), (.fieldA 1 (.tmp 1)), (some (21, false)), none⟩, ⟨(some 23), (.load false 1 (.tmp 22)), (some (21, false)), none⟩, ⟨(some 24), (.mv (.tmp 4)), (some (21, false)), none⟩, ⟨(some 25), (.bin .sub (.tmp 24) (.con (.int .i64 1))), (some (21, false)), none⟩, ⟨(some 26), (.idxASl 2 (.tmp 23) (.tmp 25)), (some (21, false)), none⟩, ⟨(some 27), (.fieldA 1 (.tmp 26)), (some (21, false)), none⟩, ⟨(some 28), (.load false 1 (.tmp 27)), (some (21, false)), none⟩, ⟨(some 29), (.fieldA 1 (.tmp 5)), (some (21, false)), none⟩, ⟨(some 30), (.load false 1 (.tmp 29)), (some (21, false)), none⟩, ⟨(some 31), (.bin .lss (.tmp 28) (.tmp 30)), (some (21, false)), none⟩, ⟨(some 32), (.pick (.tmp 21) (.con (.bool true)) (.tmp 31)), none, none⟩, ⟨(some 6), (.mv (.tmp 32)), none, none⟩]) (.seq (.draw [⟨(some 33), (.mv (.tmp 4)), none, none⟩, ⟨(some 34), (.fieldA 1 (.tmp 1)), none, none⟩, ⟨(some 35), (.load false 1 (.tmp 34)), none, none⟩, ⟨(some 36), (.len false (.tmp 35)), none, none⟩, ⟨(some 37), (.bin .sub (.tmp 36) (.con (.int .i64 1))), none, none⟩, ⟨(some 38), (.bin .eql (.tmp 33) (.tmp 37)), none, none⟩, ⟨(some 39), (.mv (.tmp 38)), none, none⟩, ⟨(some 40), (.fieldA 1 (.tmp 1)), (some (39, false)), none⟩, ⟨(some 41), (.load false 1 (.tmp 40)), (some (39, false)), none⟩, ⟨(some 42), (.mv (.tmp 4)), (some (39, false)), none⟩, ⟨(some 43), (.bin .add (.tmp 42) (.con (.int .i64 1))), (some (39, false)), none⟩, ⟨(some 44), (.idxASl 2 (.tmp 41) (.tmp 43)), (some (39, false)), none⟩, ⟨(some 45), (.fieldA 1 (.tmp 44)), (some (39, false)), none⟩, ⟨(some 46), (.load false 1 (.tmp 45)), (some (39, false)), none⟩, ⟨(some 47), (.fieldA 1 (.tmp 5)), (some (39, false)), none⟩, ⟨(some 48), (.load false 1 (.tmp 47)), (some (39, false)), none⟩, ⟨(some 49), (.bin .leq (.tmp 46) (.tmp 48)), (some (39, false)), none⟩, ⟨(some 50), (.pick (.tmp 39) (.con (.bool true)) (.tmp 49)), none, none⟩, ⟨(some 7), (.mv (.tmp 50)), none, none⟩]) (.seq (.region [⟨(some 51), (.mv (.tmp 6)), none, none⟩, ⟨(some 52), (.mv (.tmp 51)), none, none⟩, ⟨(some 53), (.mv (.tmp 7)), (some (52, true)), none⟩, ⟨(some 54), (.pick (.tmp 52) (.tmp 53) (.con (.bool false))), none, none⟩]) (.cond (.tmp 54) (.region [⟨(some 55), (.mv (.tmp 3)), none, none⟩, ⟨(some 56), (.load true 2 (.tmp 5)), none, none⟩, ⟨(some 57), (.buildS 1 [(.int .i64 0), (.int .i64 0)] [(0, (2, (.tmp 56)))]), none, none⟩, ⟨(some 58), (.append 2 16 (.tmp 55) (.tmp 57)), none, none⟩, ⟨(some 3), (.mv (.tmp 58)), none, none⟩]) .skip)))))) (.region [⟨(some 59), (.bin .add (.tmp 14) (.con (.int .i64 1))), none, none⟩, ⟨(some 14), (.mv (.tmp 59)), none, none⟩]))))
def J50 (K0 : AHeap) (p : Nat) (s : AVal) (ps : List (Int × Int)) (j : Nat) (env : Env) (K : AHeap) : Prop :=
  j ≤ ps.length ∧ Keeps K0 K ∧ env 1 = .ptr p 0 ∧ env 12 = s ∧ env 13 = .int .i64 (ps.length : Int) ∧ env 14 = .int .i64 (j : Int) ∧ ∃ v, env 3 = v ∧ Ow K 2 v (PS (pks ps j)) ∧ ∀ i, i ∈ v.ids → K0.next ≤ i
theorem round50 {K0 K : AHeap} {p j : Nat} {r : Int} {s : AVal} {ps : List (Int × Int)} {env : Env} (op : K0.obj p = some (.cells [.int .i64 r, s] true)) (hp : p < K0.next) (hs : Sl K0 2 s (PS ps)) (hid : ∀ i, i ∈ s.ids → i < K0.next) (hl : ps.length ≤ 8796093021952) (h : J50 K0 p s ps j env K) (hlt : j < ps.length) :
    Outs (AX A b50 env K) fun e env' K' => e = .normal ∧ J50 K0 p s ps (j + 1) env' K' := by
  obtain ⟨hj, hk, h1, h12, h13, h14, v, h3, hv, hvi⟩ := h
  have hsK := hs.keep hid hk
  obtain ⟨id, off, cap, g, l, own, et, ho, hkk, hall⟩ := pts_at hsK (by omega)
  have e1 : decide ((j : Int) < (ps.length : Int)) = true := by simp; omega
  have w1 : IntKind.i64.wrap ((j : Int) + 1) = ((j + 1 : Nat) : Int) := by rw [wrap_i64]; omega
  have wn : IntKind.i64.wrap ((ps.length : Int) - 1) = ((ps.length - 1 : Nat) : Int) := by rw [wrap_i64]; omega
  have ha : aidx ps.length (.int .i64 (j : Int)) = some j := by simp [aidx]; omega
  obtain ⟨g1, _, _⟩ := hall j hlt
  have ej := at0_get hlt
  obtain ⟨⟨x, y⟩, exy⟩ : ∃ q, ps[j] = q := ⟨_, rfl⟩
  rw [exy] at g1 ej
  have hid1 : id < K.next := by have := hid id (by rw [et]; simp [AVal.ids]); have := hk.1; omega
  obtain ⟨K1, eK1⟩ : ∃ X, (K.new (.cells [.int .i64 0, .int .i64 0] true)).set K.next (.cells [.int .i64 x, .int .i64 y] true) = X := ⟨_, rfl⟩
  have nK1 : K1.next = K.next + 1 := by rw [← eK1]; rfl
  have oK1 : K1.obj K.next = some (.cells [.int .i64 x, .int .i64 y] true) := by rw [← eK1]; simp [AHeap.set]
  have kK1 : Keeps K K1 := ⟨by omega, fun i hi => by rw [← eK1]; simp only [set_obj, new_obj]; rw [if_neg (by omega), if_neg (by omega)]⟩
  have ho1 : K1.obj id = some (.cells l own) := by rw [kK1.2 id hid1]; exact ho
  have op1 : K1.obj p = some (.cells [.int .i64 r, s] true) := by rw [kK1.2 p (by have := hk.1; omega), hk.2 p hp]; exact op
  have hv1 : Ow K1 2 v (PS (pks ps j)) := hv.keeps kK1.1 fun i hi => kK1.2 i (hv.lt i hi)
  obtain ⟨K2, ap, oN, nK2, kK2⟩ := bp_push (.inl hv1) x y (by have := pks_len ps j; omega)
  obtain ⟨m, em⟩ : ∃ m, (pks ps j).length = m := ⟨_, rfl⟩
  rw [nK1, em] at ap
  rw [nK1] at oN nK2 kK2
  have finF : pk ps j = false → ∀ env2 : Env, env2 1 = .ptr p 0 → env2 12 = s → env2 13 = .int .i64 (ps.length : Int) → env2 14 = .int .i64 ((j + 1 : Nat) : Int) → env2 3 = v → J50 K0 p s ps (j + 1) env2 K1 := by
    intro hp' env2 a1 a12 a13 a14 a3
    refine ⟨by omega, hk.trans kK1, a1, a12, a13, a14, v, a3, ?_, hvi⟩
    rw [pks_succ, hp', if_neg (by simp)]
    exact hv1
  have finT : pk ps j = true → ∀ env2 : Env, env2 1 = .ptr p 0 → env2 12 = s → env2 13 = .int .i64 (ps.length : Int) → env2 14 = .int .i64 ((j + 1 : Nat) : Int) → env2 3 = .slice (K.next + 1 + 1) 0 (m + 1) (m + 1) (some 2) → J50 K0 p s ps (j + 1) env2 K2 := by
    intro hp' env2 a1 a12 a13 a14 a3
    have hk0 := hk.1
    refine ⟨by omega, ⟨by omega, fun i hi => ?_⟩, a1, a12, a13, a14, _, a3, ?_, ?_⟩
    · rw [kK2 i (by omega) (fun hx => by have := hvi i hx; omega), kK1.2 i (by omega), hk.2 i hi]
    · rw [pks_succ, hp', if_pos rfl, ej]
      exact .inr ⟨_, _, rfl, by rw [PS_len]; simp [em], by omega, oN, by omega⟩
    · intro i hi
      simp [AVal.ids] at hi
      omega
  by_cases hj0 : j = 0
  · have d0 : decide ((j : Int) = 0) = true := decide_eq_true (by omega)
    have eu : upP ps j = true := by unfold upP; rw [decide_eq_true hj0, Bool.true_or]
    by_cases hjn : j = ps.length - 1
    · have dl : decide ((j : Int) = ((ps.length - 1 : Nat) : Int)) = true := decide_eq_true (by omega)
      have ed : dnP ps j = true := by unfold dnP; rw [decide_eq_true hjn, Bool.true_or]
      have hpk : pk ps j = true := by unfold pk; rw [eu, ed]; rfl
      subst et
      simp only [b50, h1, h3, h12, h13, h14, e1, w1, wn, ha, ho, g1, eK1, nK1, oK1, ho1, op1, ap, d0, dl, Bool.not_true, Bool.not_false, rwA, rwB, Nat.reduceAdd, Nat.reduceMul, Nat.reduceLeDiff, Int.reduceEq, Int.reduceLT, Int.reduceLE, Int.reduceAdd, Int.reduceSub, Int.reduceMul, ↓reduceIte, Nat.reduceEqDiff, reduceCtorEq, ↓cnd_true, ↓cnd_false]
      rw [outs_some]
      exact ⟨rfl, finT hpk _ (by simp [Env.set, h1]) (by simp [Env.set, h12]) (by simp [Env.set, h13]) (by simp [Env.set]) (by simp [Env.set, h3])⟩
    · have dl : decide ((j : Int) = ((ps.length - 1 : Nat) : Int)) = false := decide_eq_false (by omega)
      have hj2 : j + 1 < ps.length := by omega
      obtain ⟨_, _, u4⟩ := hall (j + 1) hj2
      rw [Nat.add_assoc] at u4
      have ej2 := at0_get hj2
      obtain ⟨⟨x2, y2⟩, exy2⟩ : ∃ q, ps[j + 1] = q := ⟨_, rfl⟩
      rw [exy2] at u4 ej2
      have ha3 : aidx ps.length (.int .i64 ((j + 1 : Nat) : Int)) = some (j + 1) := by simp [aidx]; omega
      have ed : dnP ps j = decide (y2 ≤ y) := by unfold dnP; rw [ej, ej2, decide_eq_false (show ¬ j = ps.length - 1 by omega), Bool.false_or]
      cases cd : decide (y2 ≤ y)
      · rw [cd] at ed
        have hpk : pk ps j = false := by unfold pk; rw [eu, ed]; rfl
        subst et
        simp only [b50, h1, h3, h12, h13, h14, e1, w1, wn, ha, ho, g1, eK1, nK1, oK1, ho1, op1, ap, d0, dl, ha3, u4, cd, Bool.not_true, Bool.not_false, rwA, rwB, Nat.reduceAdd, Nat.reduceMul, Nat.reduceLeDiff, Int.reduceEq, Int.reduceLT, Int.reduceLE, Int.reduceAdd, Int.reduceSub, Int.reduceMul, ↓reduceIte, Nat.reduceEqDiff, reduceCtorEq, ↓cnd_true, ↓cnd_false]
        rw [outs_some]
        exact ⟨rfl, finF hpk _ (by simp [Env.set, h1]) (by simp [Env.set, h12]) (by simp [Env.set, h13]) (by simp [Env.set]) (by simp [Env.set, h3])⟩
      · rw [cd] at ed
        have hpk : pk ps j = true := by unfold pk; rw [eu, ed]; rfl
        subst et
        simp only [b50, h1, h3, h12, h13, h14, e1, w1, wn, ha, ho, g1, eK1, nK1, oK1, ho1, op1, ap, d0, dl, ha3, u4, cd, Bool.not_true, Bool.not_false, rwA, rwB, Nat.reduceAdd, Nat.reduceMul, Nat.reduceLeDiff, Int.reduceEq, Int.reduceLT, Int.reduceLE, Int.reduceAdd, Int.reduceSub, Int.reduceMul, ↓reduceIte, Nat.reduceEqDiff, reduceCtorEq, ↓cnd_true, ↓cnd_false]
        rw [outs_some]
        exact ⟨rfl, finT hpk _ (by simp [Env.set, h1]) (by simp [Env.set, h12]) (by simp [Env.set, h13]) (by simp [Env.set]) (by simp [Env.set, h3])⟩
  · have d0 : decide ((j : Int) = 0) = false := decide_eq_false (by omega)
    have hj1 : j - 1 < ps.length := by omega
    obtain ⟨_, _, u3⟩ := hall (j - 1) hj1
    rw [Nat.add_assoc] at u3
    have ej1 := at0_get hj1
    obtain ⟨⟨x1, y1⟩, exy1⟩ : ∃ q, ps[j - 1] = q := ⟨_, rfl⟩
    rw [exy1] at u3 ej1
    have w2 : IntKind.i64.wrap ((j : Int) - 1) = ((j - 1 : Nat) : Int) := by rw [wrap_i64]; omega
    have ha2 : aidx ps.length (.int .i64 ((j - 1 : Nat) : Int)) = some (j - 1) := by simp [aidx]; omega
    have eu : upP ps j = decide (y1 < y) := by unfold upP; rw [ej, ej1, decide_eq_false (show ¬ j = 0 by omega), Bool.false_or]
    cases cu : decide (y1 < y)
    · rw [cu] at eu
      by_cases hjn : j = ps.length - 1
      · have dl : decide ((j : Int) = ((ps.length - 1 : Nat) : Int)) = true := decide_eq_true (by omega)
        have ed : dnP ps j = true := by unfold dnP; rw [decide_eq_true hjn, Bool.true_or]
        have hpk : pk ps j = false := by unfold pk; rw [eu, ed]; rfl
        subst et
        simp only [b50, h1, h3, h12, h13, h14, e1, w1, wn, ha, ho, g1, eK1, nK1, oK1, ho1, op1, ap, d0, w2, ha2, u3, cu, dl, Bool.not_true, Bool.not_false, rwA, rwB, Nat.reduceAdd, Nat.reduceMul, Nat.reduceLeDiff, Int.reduceEq, Int.reduceLT, Int.reduceLE, Int.reduceAdd, Int.reduceSub, Int.reduceMul, ↓reduceIte, Nat.reduceEqDiff, reduceCtorEq, ↓cnd_true, ↓cnd_false]
        rw [outs_some]
        exact ⟨rfl, finF hpk _ (by simp [Env.set, h1]) (by simp [Env.set, h12]) (by simp [Env.set, h13]) (by simp [Env.set]) (by simp [Env.set, h3])⟩
      · have dl : decide ((j : Int) = ((ps.length - 1 : Nat) : Int)) = false := decide_eq_false (by omega)
        have hj2 : j + 1 < ps.length := by omega
        obtain ⟨_, _, u4⟩ := hall (j + 1) hj2
        rw [Nat.add_assoc] at u4
        have ej2 := at0_get hj2
        obtain ⟨⟨x2, y2⟩, exy2⟩ : ∃ q, ps[j + 1] = q := ⟨_, rfl⟩
        rw [exy2] at u4 ej2
        have ha3 : aidx ps.length (.int .i64 ((j + 1 : Nat) : Int)) = some (j + 1) := by simp [aidx]; omega
        have ed : dnP ps j = decide (y2 ≤ y) := by unfold dnP; rw [ej, ej2, decide_eq_false (show ¬ j = ps.length - 1 by omega), Bool.false_or]
        cases cd : decide (y2 ≤ y)
        · rw [cd] at ed
          have hpk : pk ps j = false := by unfold pk; rw [eu, ed]; rfl
          subst et
          simp only [b50, h1, h3, h12, h13, h14, e1, w1, wn, ha, ho, g1, eK1, nK1, oK1, ho1, op1, ap, d0, w2, ha2, u3, cu, dl, ha3, u4, cd, Bool.not_true, Bool.not_false, rwA, rwB, Nat.reduceAdd, Nat.reduceMul, Nat.reduceLeDiff, Int.reduceEq, Int.reduceLT, Int.reduceLE, Int.reduceAdd, Int.reduceSub, Int.reduceMul, ↓reduceIte, Nat.reduceEqDiff, reduceCtorEq, ↓cnd_true, ↓cnd_false]
          rw [outs_some]
          exact ⟨rfl, finF hpk _ (by simp [Env.set, h1]) (by simp [Env.set, h12]) (by simp [Env.set, h13]) (by simp [Env.set]) (by simp [Env.set, h3])⟩
        · rw [cd] at ed
          have hpk : pk ps j = false := by unfold pk; rw [eu, ed]; rfl
          subst et
          simp only [b50, h1, h3, h12, h13, h14, e1, w1, wn, ha, ho, g1, eK1, nK1, oK1, ho1, op1, ap, d0, w2, ha2, u3, cu, dl, ha3, u4, cd, Bool.not_true, Bool.not_false, rwA, rwB, Nat.reduceAdd, Nat.reduceMul, Nat.reduceLeDiff, Int.reduceEq, Int.reduceLT, Int.reduceLE, Int.reduceAdd, Int.reduceSub, Int.reduceMul, ↓reduceIte, Nat.reduceEqDiff, reduceCtorEq, ↓cnd_true, ↓cnd_false]
          rw [outs_some]
          exact ⟨rfl, finF hpk _ (by simp [Env.set, h1]) (by simp [Env.set, h12]) (by simp [Env.set, h13]) (by simp [Env.set]) (by simp [Env.set, h3])⟩
    · rw [cu] at eu
      by_cases hjn : j = ps.length - 1
      · have dl : decide ((j : Int) = ((ps.length - 1 : Nat) : Int)) = true := decide_eq_true (by omega)
        have ed : dnP ps j = true := by unfold dnP; rw [decide_eq_true hjn, Bool.true_or]
        have hpk : pk ps j = true := by unfold pk; rw [eu, ed]; rfl
        subst et
        simp only [b50, h1, h3, h12, h13, h14, e1, w1, wn, ha, ho, g1, eK1, nK1, oK1, ho1, op1, ap, d0, w2, ha2, u3, cu, dl, Bool.not_true, Bool.not_false, rwA, rwB, Nat.reduceAdd, Nat.reduceMul, Nat.reduceLeDiff, Int.reduceEq, Int.reduceLT, Int.reduceLE, Int.reduceAdd, Int.reduceSub, Int.reduceMul, ↓reduceIte, Nat.reduceEqDiff, reduceCtorEq, ↓cnd_true, ↓cnd_false]
        rw [outs_some]
        exact ⟨rfl, finT hpk _ (by simp [Env.set, h1]) (by simp [Env.set, h12]) (by simp [Env.set, h13]) (by simp [Env.set]) (by simp [Env.set, h3])⟩
      · have dl : decide ((j : Int) = ((ps.length - 1 : Nat) : Int)) = false := decide_eq_false (by omega)
        have hj2 : j + 1 < ps.length := by omega
        obtain ⟨_, _, u4⟩ := hall (j + 1) hj2
        rw [Nat.add_assoc] at u4
        have ej2 := at0_get hj2
        obtain ⟨⟨x2, y2⟩, exy2⟩ : ∃ q, ps[j + 1] = q := ⟨_, rfl⟩
        rw [exy2] at u4 ej2
        have ha3 : aidx ps.length (.int .i64 ((j + 1 : Nat) : Int)) = some (j + 1) := by simp [aidx]; omega
        have ed : dnP ps j = decide (y2 ≤ y) := by unfold dnP; rw [ej, ej2, decide_eq_false (show ¬ j = ps.length - 1 by omega), Bool.false_or]
        cases cd : decide (y2 ≤ y)
        · rw [cd] at ed
          have hpk : pk ps j = false := by unfold pk; rw [eu, ed]; rfl
          subst et
          simp only [b50, h1, h3, h12, h13, h14, e1, w1, wn, ha, ho, g1, eK1, nK1, oK1, ho1, op1, ap, d0, w2, ha2, u3, cu, dl, ha3, u4, cd, Bool.not_true, Bool.not_false, rwA, rwB, Nat.reduceAdd, Nat.reduceMul, Nat.reduceLeDiff, Int.reduceEq, Int.reduceLT, Int.reduceLE, Int.reduceAdd, Int.reduceSub, Int.reduceMul, ↓reduceIte, Nat.reduceEqDiff, reduceCtorEq, ↓cnd_true, ↓cnd_false]
          rw [outs_some]
          exact ⟨rfl, finF hpk _ (by simp [Env.set, h1]) (by simp [Env.set, h12]) (by simp [Env.set, h13]) (by simp [Env.set]) (by simp [Env.set, h3])⟩
        · rw [cd] at ed
          have hpk : pk ps j = true := by unfold pk; rw [eu, ed]; rfl
          subst et
          simp only [b50, h1, h3, h12, h13, h14, e1, w1, wn, ha, ho, g1, eK1, nK1, oK1, ho1, op1, ap, d0, w2, ha2, u3, cu, dl, ha3, u4, cd, Bool.not_true, Bool.not_false, rwA, rwB, Nat.reduceAdd, Nat.reduceMul, Nat.reduceLeDiff, Int.reduceEq, Int.reduceLT, Int.reduceLE, Int.reduceAdd, Int.reduceSub, Int.reduceMul, ↓reduceIte, Nat.reduceEqDiff, reduceCtorEq, ↓cnd_true, ↓cnd_false]
          rw [outs_some]
          exact ⟨rfl, finT hpk _ (by simp [Env.set, h1]) (by simp [Env.set, h12]) (by simp [Env.set, h13]) (by simp [Env.set]) (by simp [Env.set, h3])⟩

theorem loop50 {K0 : AHeap} {p : Nat} {r : Int} {s : AVal} {ps : List (Int × Int)} {env : Env} (op : K0.obj p = some (.cells [.int .i64 r, s] true)) (hp : p < K0.next) (hs : Sl K0 2 s (PS ps)) (hid : ∀ i, i ∈ s.ids → i < K0.next) (hl : ps.length ≤ 8796093021952) (h : J50 K0 p s ps 0 env K0) :
    Outs (AX A (.loop b50) env K0) fun e env' K' => e = .exit 0 ∧ J50 K0 p s ps ps.length env' K' := by
  refine loop_ends (I := fun (j : Nat) env' K' => J50 K0 p s ps j env' K') (fun j => ps.length - j) ?_ 0 env K0 h
  intro j env' K' hJ
  by_cases hlt : j < ps.length
  · refine (round50 op hp hs hid hl hJ hlt).mono ?_
    rintro e env2 K2 ⟨rfl, h2⟩
    exact .inl ⟨rfl, j + 1, by omega, h2⟩
  · have hj := hJ.1
    have : j = ps.length := by omega
    subst this
    obtain ⟨_, hk, h1, h12, h13, h14, v, h3, hv, hvi⟩ := hJ
    have e1 : decide ((ps.length : Int) < (ps.length : Int)) = false := by simp
    simp only [b50, h13, h14, e1, rwA, rwB, Nat.reduceAdd, Nat.reduceMul, Nat.reduceLeDiff, Int.reduceEq, Int.reduceLT, Int.reduceLE, Int.reduceAdd, Int.reduceSub, Int.reduceMul, ↓reduceIte, Nat.reduceEqDiff, reduceCtorEq, ↓cnd_true, ↓cnd_false]
    rw [outs_some]
    exact .inr ⟨by simp, rfl, hj, hk, by simp [Env.set, h1], by simp [Env.set, h12], by simp [Env.set, h13], by simp [Env.set, h14], v, by simp [Env.set, h3], hv, hvi⟩

def peaks (r : Int) (ps : List (Int × Int)) : List (Int × Int) := if right r ps then pks ps ps.length else []
theorem one_slc {n id b m : Nat} {K : AHeap} {cs : List AVal} (h : n ≤ id) (ho : K.obj id = some (.cells cs true)) (hc : oldl n cs = true) :
    One n (.slice id 0 m m (some 2)) K (.slice b 0 m m (some 2)) b cs :=
  ⟨id, by simp [AVal.ids, h, nub], ho, hc, by simp [AVal.ren, sig_new [] h]⟩

theorem body50 {H : AHeap} {r : Int} {s : AVal} {ps : List (Int × Int)} (hs : Sl H 2 s (PS ps)) (hid : ∀ i, i ∈ s.ids → i < H.next) (hl : ps.length ≤ 8796093021952) :
    Rets (endX GaFns.c50.results (AX A GaFns.c50.body (ainit [.agg [.int .i64 r, s]]) (frz H))) fun v K => Ow K 2 v (PS (peaks r ps)) ∧ ∀ i, i ∈ v.ids → H.next ≤ i := by
  have hsf := hs.frz
  have hn : (frz H).next = H.next := rfl
  obtain ⟨K, eK⟩ : ∃ K, (frz H).new (.cells [.int .i64 r, s] true) = K := ⟨_, rfl⟩
  have kK : Keeps (frz H) K := by rw [← eK]; exact Keeps.new _ _
  have hsK := hsf.keep hid kK
  have nK : K.next = H.next + 1 := by rw [← eK]; simp [new_next, hn]
  have oK : K.obj H.next = some (.cells [.int .i64 r, s] true) := by rw [← eK]; simp [AHeap.new, hn]
  have hidK : ∀ i, i ∈ s.ids → i < K.next := fun i hi => by have := hid i hi; omega
  have hlen := PS_alen hsK
  have u35 := U35 (r := r) hsK hidK (by omega)
  have c0 := chk0 r ps
  cases hr : right r ps <;> rw [hr] at c0
  · have ep : peaks r ps = [] := by simp [peaks, hr]
    rw [ep]
    simp only [c50, eK, nK, oK, hn, u35, c0, Bool.not_false, rwA, rwB, Nat.reduceAdd, Nat.reduceMul, Nat.reduceLeDiff, Int.reduceEq, Int.reduceLT, Int.reduceLE, Int.reduceAdd, Int.reduceSub, Int.reduceMul, ↓reduceIte, Nat.reduceEqDiff, reduceCtorEq, ↓cnd_true, ↓cnd_false]
    rw [rets_some]
    exact ⟨.inl ⟨rfl, rfl⟩, by simp [AVal.ids]⟩
  · have ep : peaks r ps = pks ps ps.length := by simp [peaks, hr]
    rw [ep]
    simp only [c50, eK, nK, oK, hn, u35, c0, hlen, Bool.not_true, rwA, rwB, Nat.reduceAdd, Nat.reduceMul, Nat.reduceLeDiff, Int.reduceEq, Int.reduceLT, Int.reduceLE, Int.reduceAdd, Int.reduceSub, Int.reduceMul, ↓reduceIte, Nat.reduceEqDiff, reduceCtorEq, ↓cnd_true, ↓cnd_false]
    repeat (first | refine outs_seq ?_ | refine outs_block ?_ | refine outs_step ?_ | refine outs_stepD ?_ | refine rets_end ?_ | refine ans_end ?_)
    refine (loop50 (K0 := K) (p := H.next) (s := s) (ps := ps) oK (by omega) hsK hidK hl ⟨Nat.zero_le _, Keeps.refl _, ?_, ?_, ?_, ?_, .nils, ?_, .inl ⟨rfl, rfl⟩, by simp [AVal.ids]⟩).mono ?_
    · simp [Env.set]
    · simp [Env.set]
    · simp [Env.set]
    · simp [Env.set]
    · simp [Env.set]
    · rintro e env K' ⟨rfl, _, hk, h1, _, _, _, v, h3, hv, hvi⟩
      simp only [outs_some, h1, h3, rwA, rwB, Nat.reduceAdd, Nat.reduceMul, Nat.reduceLeDiff, Int.reduceEq, Int.reduceLT, Int.reduceLE, Int.reduceAdd, Int.reduceSub, Int.reduceMul, ↓reduceIte, Nat.reduceEqDiff, reduceCtorEq, ↓cnd_true, ↓cnd_false]
      rw [rets_some]
      exact ⟨hv, fun i hi => by have := hvi i hi; omega⟩

theorem U50 {H : AHeap} {s : AVal} {ps : List (Int × Int)} (hs : Sl H 2 s (PS ps)) (hid : ∀ i, i ∈ s.ids → i < H.next) (hl : ps.length ≤ 8796093021952) (r : Int) :
    ∃ v H', AC A 50 [.agg [.int .i64 r, s]] H = some (v, H') ∧ Keeps H H' ∧ Sl H' 2 v (PS (peaks r ps)) ∧ (∀ i, i ∈ v.ids → i < H'.next) ∧ (v = .nils ∨ ∃ id off n c g, v = .slice id off n c g) := by
  obtain ⟨v, K, hrun, hv, hvi⟩ := body50 (r := r) hs hid hl
  rcases hv with ⟨rfl, hp⟩ | ⟨id, n, rfl, h1, h2, h3, h4⟩
  · refine ⟨.nils, H, look_val (x := GaFns.c50) rfl rfl rfl rfl ⟨K, hrun⟩, Keeps.refl _, .inl ⟨rfl, hp⟩, by simp [AVal.ids], .inl rfl⟩
  · have hid' : H.next ≤ id := hvi id (by simp [AVal.ids])
    refine ⟨.slice H.next 0 n n (some 2), H.new (.cells (PS (peaks r ps)) true), look_new (x := GaFns.c50) rfl rfl rfl ⟨_, K, hrun, one_slc hid' h3 (PS_old _ _)⟩, Keeps.new _ _, ?_, ?_, .inr ⟨_, _, _, _, _, rfl⟩⟩
    · refine .inr ⟨_, _, _, _, _, rfl, h1, .inr ⟨PS (peaks r ps), true, by simp [AHeap.new], by omega, by simp [← h1]⟩⟩
    · intro i hi
      simp [AVal.ids] at hi
      simp only [new_next]; omega

end Go.Proofs.Ytfpbmoiconopcaa.Gh
