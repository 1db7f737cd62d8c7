/- HistoryPeaks. -/
import Derived.Test.YtfpbmoiconopcaaGhS
set_option maxRecDepth 100000
set_option linter.unusedSimpArgs false
set_option linter.unusedVariables false
set_option maxHeartbeats 4000000
namespace Go.Proofs.Ytfpbmoiconopcaa.Gh
open Go Go.Proofs.Ytfpbmoiconopcaa.Am GaFns Go.RowKit

def fnd (ps : List (Int × Int)) (k : Nat) : Bool := decide (ps.length = 0) || (List.range k).any fun i => decide ((at0 ps (ik ps i)).2 = mxN ps ps.length)
theorem fnd_succ (ps : List (Int × Int)) (k : Nat) : fnd ps (k + 1) = (fnd ps k || decide ((at0 ps (ik ps k)).2 = mxN ps ps.length)) := by simp [fnd, List.range_succ, Bool.or_assoc]
theorem fnd_all {ps : List (Int × Int)} (hg : Good ps) : fnd ps (pks ps ps.length).length = true := by
  unfold fnd
  by_cases h0 : ps.length = 0
  · simp [h0]
  · obtain ⟨k, hk, ek⟩ := peak_most hg h0
    rw [Bool.or_eq_true, List.any_eq_true]
    exact .inr ⟨k, by simpa using hk, decide_eq_true ek⟩

def b10b : ACode := (.seq (.region [⟨(some 59), (.bin .lss (.tmp 58) (.tmp 57)), none, none⟩]) (.seq (.cond (.tmp 59) .skip (.exit 2)) (.seq (.block 3 (.seq (.region [⟨(some 60), (.idxASl 2 (.tmp 56) (.tmp 58)), none, none⟩, ⟨(some 61), (.load true 2 (.tmp 60)), none, none⟩, ⟨(some 11), (.new [(.int .i64 0), (.int .i64 0)]), none, none⟩, ⟨none, (.store 2 (.tmp 11) (.tmp 61)), none, none⟩]) (.seq (.region [⟨(some 12), (.mv (.con (.int .i64 1152921504606846976))), none, none⟩]) (.seq (.seq (.region [⟨(some 62), (.fieldA 1 (.tmp 3)), none, none⟩, ⟨(some 63), (.load false 1 (.tmp 62)), none, none⟩, ⟨(some 64), (.len false (.tmp 63)), none, none⟩, ⟨(some 65), (.mv (.con (.int .i64 0))), none, none⟩]) (.block 4 (.loop (.seq (.region [⟨(some 66), (.bin .lss (.tmp 65) (.tmp 64)), none, none⟩]) (.seq (.cond (.tmp 66) .skip (.exit 4)) (.seq (.block 5 (.seq (.region [⟨(some 67), (.idxASl 2 (.tmp 63) (.tmp 65)), none, none⟩, ⟨(some 68), (.load true 2 (.tmp 67)), none, none⟩, ⟨(some 14), (.new [(.int .i64 0), (.int .i64 0)]), none, none⟩, ⟨none, (.store 2 (.tmp 14) (.tmp 68)), none, none⟩]) (.seq (.region [⟨(some 69), (.fieldA 0 (.tmp 14)), none, none⟩, ⟨(some 70), (.load false 1 (.tmp 69)), none, none⟩, ⟨(some 71), (.mv (.tmp 6)), none, none⟩, ⟨(some 72), (.bin .gtr (.tmp 70) (.tmp 71)), none, none⟩, ⟨(some 73), (.mv (.tmp 72)), none, none⟩, ⟨(some 74), (.fieldA 0 (.tmp 14)), (some (73, true)), none⟩, ⟨(some 75), (.load false 1 (.tmp 74)), (some (73, true)), none⟩, ⟨(some 76), (.fieldA 0 (.tmp 11)), (some (73, true)), none⟩, ⟨(some 77), (.load false 1 (.tmp 76)), (some (73, true)), none⟩, ⟨(some 78), (.bin .leq (.tmp 75) (.tmp 77)), (some (73, true)), none⟩, ⟨(some 79), (.pick (.tmp 73) (.tmp 78) (.con (.bool false))), none, none⟩]) (.cond (.tmp 79) (.region [⟨(some 80), (.mv (.tmp 12)), none, none⟩, ⟨(some 81), (.fieldA 1 (.tmp 14)), none, none⟩, ⟨(some 82), (.load false 1 (.tmp 81)), none, none⟩, ⟨(some 83), (.minmax false [(.tmp 80), (.tmp 82)]), none, none⟩, ⟨(some 12), (.mv (.tmp 83)), none, none⟩]) .skip)))) (.region [⟨(some 84), (.bin .add (.tmp 65) (.con (.int .i64 1))), none, none⟩, ⟨(some 65), (.mv (.tmp 84)), none, none⟩]))))))) (.seq (.seq (.region [⟨(some 85), (.mv (.tmp 6)), none, none⟩, ⟨(some 86), (.bin .geq (.tmp 85) (.con (.int .i64 0))), none, none⟩, ⟨(some 87), (.mv (.tmp 86)), none, none⟩, ⟨(some 88), (.mv (.tmp 12)), (some (87, true)), none⟩, ⟨(some 89), (.fieldA 1 (.tmp 11)), (some (87, true)), none⟩, ⟨(some 90), (.load false 1 (.tmp 89)), (some (87, true)), none⟩, ⟨(some 91), (.bin .geq (.tmp 88) (.tmp 90)), (some (87, true)), none⟩, ⟨(some 92), (.pick (.tmp 87) (.tmp 91) (.con (.bool false))), none, none⟩, ⟨(some 93), (.mv (.tmp 92)), none, none⟩, ⟨(some 94), (.fieldA 0 (.tmp 11)), (some (93, false)), none⟩, ⟨(some 95), (.load false 1 (.tmp 94)), (some (93, false)), none⟩, ⟨(some 96), (.mv (.tmp 6)), (some (93, false)), none⟩, ⟨(some 97), (.bin .leq (.tmp 95) (.tmp 96)), (some (93, false)), none⟩, ⟨(some 98), (.pick (.tmp 93) (.con (.bool true)) (.tmp 97)), none, none⟩]) (.cond (.tmp 98) (.seq (.region [⟨(some 2), (.mv (.con (.bool false))), none, none⟩]) .ret) .skip)) (.seq (.region [⟨(some 99), (.fieldA 0 (.tmp 11)), none, none⟩, ⟨(some 100), (.load false 1 (.tmp 99)), none, none⟩, ⟨(some 6), (.mv (.tmp 100)), none, none⟩]) (.region [⟨(some 101), (.mv (.tmp 9)), none, none⟩, ⟨(some 102), (.mv (.tmp 101)), none, none⟩, ⟨(some 103), (.fieldA 1 (.tmp 11)), (some (102, false)), none⟩, ⟨(some 104), (.load false 1 (.tmp 103)), (some (102, false)), none⟩, ⟨(some 105), (.mv (.tmp 5)), (some (102, false)), none⟩, ⟨(some 106), (.bin .eql (.tmp 104) (.tmp 105)), (some (102, false)), none⟩, ⟨(some 107), (.pick (.tmp 102) (.con (.bool true)) (.tmp 106)), none, none⟩, ⟨(some 9), (.mv (.tmp 107)), none, none⟩]))))))) (.region [⟨(some 108), (.bin .add (.tmp 58) (.con (.int .i64 1))), none, none⟩, ⟨(some 58), (.mv (.tmp 108)), none, none⟩]))))
structure J10 (K0 : AHeap) (N : Nat) (pv : AVal) (ps : List (Int × Int)) (k : Nat) (env : Env) (K : AHeap) : Prop where
  hk : Keeps K0 K
  e3 : env 3 = .ptr N 0
  e4 : env 4 = pv
  e5 : env 5 = .int .i64 (mxN ps ps.length)
  e6 : env 6 = .int .i64 (aK ps k)
  e9 : env 9 = .bool (fnd ps k)
  e56 : env 56 = pv
  e57 : env 57 = .int .i64 ((pks ps ps.length).length : Int)
  e58 : env 58 = .int .i64 (k : Int)
  le : k ≤ (pks ps ps.length).length
theorem round10 {K0 K : AHeap} {N k : Nat} {r : Int} {v pv : AVal} {ps : List (Int × Int)} {env : Env} (oN : K0.obj N = some (.cells [.int .i64 r, v] true)) (hN : N < K0.next) (hs : Sl K0 2 v (PS ps)) (hid : ∀ i, i ∈ v.ids → i < K0.next) (hl : ps.length ≤ 100)
    (hp : Sl K0 2 pv (PS (pks ps ps.length))) (hpi : ∀ i, i ∈ pv.ids → i < K0.next) (hg : Good ps) (h : J10 K0 N pv ps k env K) (hlt : k < (pks ps ps.length).length) (hvc : v = .nils ∨ ∃ id off n c g, v = .slice id off n c g) :
    Outs (AX A b10b env K) fun e env' K' => e = .normal ∧ J10 K0 N pv ps (k + 1) env' K' := by
  obtain ⟨hk, e3, e4, e5, e6, e9, e56, e57, e58, le⟩ := h
  have hml := pks_len ps ps.length
  have hpK := hp.keep hpi hk
  have hsK := hs.keep hid hk
  obtain ⟨id, off, cap, g, l, own, et, ho, hkk, hall⟩ := pts_at hpK (by omega)
  have d1 : decide ((k : Int) < ((pks ps ps.length).length : Int)) = true := by simp; omega
  have w1 : IntKind.i64.wrap ((k : Int) + 1) = ((k + 1 : Nat) : Int) := by rw [wrap_i64]; omega
  have ha : aidx (pks ps ps.length).length (.int .i64 (k : Int)) = some k := by simp [aidx]; omega
  obtain ⟨g1, _, _⟩ := hall k hlt
  obtain ⟨ep, hi1, hi2⟩ := pks_at hlt
  rw [ep] at g1
  have later := peak_later hg hlt
  have lower := peak_low hg hlt
  have fs := fnd_succ ps k
  have ak : aK ps (k + 1) = (at0 ps (ik ps k)).1 := by simp [aK]
  obtain ⟨⟨x, y⟩, exy⟩ : ∃ q, at0 ps (ik ps k) = q := ⟨_, rfl⟩
  rw [exy] at g1 later lower fs ak
  obtain ⟨a, ea⟩ : ∃ a, aK ps k = a := ⟨_, rfl⟩
  rw [ea] at e6 later lower
  obtain ⟨m, em⟩ : ∃ m, (pks ps ps.length).length = m := ⟨_, rfl⟩
  rw [em] at et e57 d1 ha
  obtain ⟨K1, eK1⟩ : ∃ X, (K.new (.cells [.int .i64 0, .int .i64 0] true)).set K.next (.cells [.int .i64 x, .int .i64 y] true) = X := ⟨_, rfl⟩
  have nK1 : K1.next = K.next + 1 := by rw [← eK1]; rfl
  have oK1 : K1.obj K.next = some (.cells [.int .i64 x, .int .i64 y] true) := by rw [← eK1]; simp [AHeap.set]
  have kK1 : Keeps K K1 := ⟨by omega, fun i hi => by rw [← eK1]; simp only [set_obj, new_obj]; rw [if_neg (by omega), if_neg (by omega)]⟩
  have k01 := hk.trans kK1
  have oN1 : K1.obj N = some (.cells [.int .i64 r, v] true) := by rw [k01.2 N hN]; exact oN
  have hs1 := hs.keep hid k01
  have hlen := PS_alen hs1
  have key : ∀ env2 : Env, env2 6 = .int .i64 a → env2 11 = .ptr K.next 0 → env2 12 = .int .i64 1152921504606846976 → env2 63 = v → env2 64 = .int .i64 (ps.length : Int) → env2 65 = .int .i64 0 → _ := fun env2 => loop10c (env := env2) (px := x) (py := y) (o := K.next) hs1 (fun i hi => by have := hid i hi; have := k01.1; omega) (by omega) oK1 (by omega)
  have q1 : decide (x ≤ a) = false := decide_eq_false (by omega)
  subst et
  have go : ∀ (env2 env' : Env) (K' : AHeap), Keeps K1 K' → env' 12 = .int .i64 (lowN ps a x ps.length) → (∀ i, i < 63 → i ≠ 12 → i ≠ 14 → env' i = env2 i) → env2 3 = .ptr N 0 → env2 4 = .slice id off m cap g → env2 5 = .int .i64 (mxN ps ps.length) → env2 6 = .int .i64 a → env2 9 = .bool (fnd ps k) → env2 11 = .ptr K.next 0 → env2 56 = .slice id off m cap g → env2 57 = .int .i64 (m : Int) → env2 58 = .int .i64 (k : Int) →
      env' 3 = .ptr N 0 ∧ env' 4 = .slice id off m cap g ∧ env' 5 = .int .i64 (mxN ps ps.length) ∧ env' 6 = .int .i64 a ∧ env' 9 = .bool (fnd ps k) ∧ env' 11 = .ptr K.next 0 ∧ env' 56 = .slice id off m cap g ∧ env' 57 = .int .i64 (m : Int) ∧ env' 58 = .int .i64 (k : Int) ∧ K'.obj K.next = some (.cells [.int .i64 x, .int .i64 y] true) := by
    intro env2 env' K' hk' _ hE a3 a4 a5 a6 a9 a11 a56 a57 a58
    refine ⟨by rw [hE 3 (by omega) (by omega) (by omega)]; exact a3, by rw [hE 4 (by omega) (by omega) (by omega)]; exact a4, by rw [hE 5 (by omega) (by omega) (by omega)]; exact a5, by rw [hE 6 (by omega) (by omega) (by omega)]; exact a6, by rw [hE 9 (by omega) (by omega) (by omega)]; exact a9, by rw [hE 11 (by omega) (by omega) (by omega)]; exact a11, by rw [hE 56 (by omega) (by omega) (by omega)]; exact a56, by rw [hE 57 (by omega) (by omega) (by omega)]; exact a57, by rw [hE 58 (by omega) (by omega) (by omega)]; exact a58, by rw [hk'.2 _ (by omega)]; exact oK1⟩
  have fin : ∀ (env3 : Env) (K' : AHeap), Keeps K1 K' → env3 3 = .ptr N 0 → env3 4 = .slice id off m cap g → env3 5 = .int .i64 (mxN ps ps.length) → env3 6 = .int .i64 x → env3 9 = .bool (fnd ps k || decide (y = mxN ps ps.length)) → env3 56 = .slice id off m cap g → env3 57 = .int .i64 (m : Int) → env3 58 = .int .i64 ((k + 1 : Nat) : Int) → J10 K0 N (.slice id off m cap g) ps (k + 1) env3 K' := by
    intro env3 K' hk' a3 a4 a5 a6 a9 a56 a57 a58
    exact ⟨k01.trans hk', a3, a4, a5, by rw [ak]; exact a6, by rw [fs]; exact a9, a56, by rw [em]; exact a57, a58, by omega⟩
  rcases hvc with rfl | ⟨v1, v2, v3, v4, v5, rfl⟩
  all_goals
    simp only [b10b, e3, e4, e5, e6, e9, e56, e57, e58, d1, w1, ha, ho, g1, eK1, nK1, oK1, oN1, hlen, rwA, rwB, Nat.reduceAdd, Nat.reduceMul, Nat.reduceLeDiff, Int.reduceEq, Int.reduceLT, Int.reduceLE, Int.reduceAdd, Int.reduceSub, Int.reduceMul, ↓reduceIte, Nat.reduceEqDiff, reduceCtorEq, ↓cnd_true, ↓cnd_false]
    repeat (first | refine outs_seq ?_ | refine outs_block ?_ | refine outs_step ?_ | refine outs_stepD ?_ | refine rets_end ?_ | refine ans_end ?_)
    refine (key _ ?_ ?_ ?_ ?_ ?_ ?_).mono ?_
    · simp [Env.set, e6]
    · simp [Env.set]
    · simp [Env.set]
    · simp [Env.set]
    · simp [Env.set]
    · simp [Env.set]
    · rintro e env' K' ⟨rfl, hk', h12, hE⟩
      obtain ⟨a3, a4, a5, a6, a9, a11, a56, a57, a58, oo⟩ := go _ env' K' hk' h12 hE (by simp [Env.set, e3]) (by simp [Env.set, e4]) (by simp [Env.set, e5]) (by simp [Env.set, e6]) (by simp [Env.set, e9]) (by simp [Env.set]) (by simp [Env.set, e56]) (by simp [Env.set, e57]) (by simp [Env.set, e58])
      cases c1 : decide (0 ≤ a)
      · cases c2 : fnd ps k
        · rw [c2] at a9
          simp only [outs_some, a3, a4, a5, a6, a9, a11, a56, a57, a58, oo, h12, q1, c1, c2, w1, rwA, rwB, Nat.reduceAdd, Nat.reduceMul, Nat.reduceLeDiff, Int.reduceEq, Int.reduceLT, Int.reduceLE, Int.reduceAdd, Int.reduceSub, Int.reduceMul, ↓reduceIte, Nat.reduceEqDiff, reduceCtorEq, ↓cnd_true, ↓cnd_false]
          exact ⟨trivial, fin _ _ hk' (by simp [Env.set, a3]) (by simp [Env.set, a4]) (by simp [Env.set, a5]) (by simp [Env.set]) (by simp [Env.set, c2]) (by simp [Env.set, a56]) (by simp [Env.set, a57]) (by simp [Env.set])⟩
        · rw [c2] at a9
          simp only [outs_some, a3, a4, a5, a6, a9, a11, a56, a57, a58, oo, h12, q1, c1, c2, w1, rwA, rwB, Nat.reduceAdd, Nat.reduceMul, Nat.reduceLeDiff, Int.reduceEq, Int.reduceLT, Int.reduceLE, Int.reduceAdd, Int.reduceSub, Int.reduceMul, ↓reduceIte, Nat.reduceEqDiff, reduceCtorEq, ↓cnd_true, ↓cnd_false]
          exact ⟨trivial, fin _ _ hk' (by simp [Env.set, a3]) (by simp [Env.set, a4]) (by simp [Env.set, a5]) (by simp [Env.set]) (by simp [Env.set, c2]) (by simp [Env.set, a56]) (by simp [Env.set, a57]) (by simp [Env.set])⟩
      · have q2 : decide (y ≤ lowN ps a x ps.length) = false := decide_eq_false (by have := lower (of_decide_eq_true c1); simp at this; omega)
        cases c2 : fnd ps k
        · rw [c2] at a9
          simp only [outs_some, a3, a4, a5, a6, a9, a11, a56, a57, a58, oo, h12, q1, q2, c1, c2, w1, rwA, rwB, Nat.reduceAdd, Nat.reduceMul, Nat.reduceLeDiff, Int.reduceEq, Int.reduceLT, Int.reduceLE, Int.reduceAdd, Int.reduceSub, Int.reduceMul, ↓reduceIte, Nat.reduceEqDiff, reduceCtorEq, ↓cnd_true, ↓cnd_false]
          exact ⟨trivial, fin _ _ hk' (by simp [Env.set, a3]) (by simp [Env.set, a4]) (by simp [Env.set, a5]) (by simp [Env.set]) (by simp [Env.set, c2]) (by simp [Env.set, a56]) (by simp [Env.set, a57]) (by simp [Env.set])⟩
        · rw [c2] at a9
          simp only [outs_some, a3, a4, a5, a6, a9, a11, a56, a57, a58, oo, h12, q1, q2, c1, c2, w1, rwA, rwB, Nat.reduceAdd, Nat.reduceMul, Nat.reduceLeDiff, Int.reduceEq, Int.reduceLT, Int.reduceLE, Int.reduceAdd, Int.reduceSub, Int.reduceMul, ↓reduceIte, Nat.reduceEqDiff, reduceCtorEq, ↓cnd_true, ↓cnd_false]
          exact ⟨trivial, fin _ _ hk' (by simp [Env.set, a3]) (by simp [Env.set, a4]) (by simp [Env.set, a5]) (by simp [Env.set]) (by simp [Env.set, c2]) (by simp [Env.set, a56]) (by simp [Env.set, a57]) (by simp [Env.set])⟩

theorem loop10b {K0 : AHeap} {N : Nat} {r : Int} {v pv : AVal} {ps : List (Int × Int)} {env : Env} (oN : K0.obj N = some (.cells [.int .i64 r, v] true)) (hN : N < K0.next) (hs : Sl K0 2 v (PS ps)) (hid : ∀ i, i ∈ v.ids → i < K0.next) (hl : ps.length ≤ 100)
    (hp : Sl K0 2 pv (PS (pks ps ps.length))) (hpi : ∀ i, i ∈ pv.ids → i < K0.next) (hg : Good ps) (hvc : v = .nils ∨ ∃ id off n c g, v = .slice id off n c g) (h : J10 K0 N pv ps 0 env K0) :
    Outs (AX A (.loop b10b) env K0) fun e env' K' => e = .exit 2 ∧ J10 K0 N pv ps (pks ps ps.length).length env' K' := by
  refine loop_ends (I := fun (k : Nat) env' K' => J10 K0 N pv ps k env' K') (fun k => (pks ps ps.length).length - k) ?_ 0 env K0 h
  intro k env' K' hJ
  by_cases hlt : k < (pks ps ps.length).length
  · refine (round10 oN hN hs hid hl hp hpi hg hJ hlt hvc).mono ?_
    rintro e env2 K2 ⟨rfl, h2⟩
    exact .inl ⟨rfl, k + 1, by omega, h2⟩
  · have hj := hJ.le
    have : k = (pks ps ps.length).length := by omega
    subst this
    obtain ⟨hk, e3, e4, e5, e6, e9, e56, e57, e58, le⟩ := hJ
    have e1 : decide (((pks ps ps.length).length : Int) < ((pks ps ps.length).length : Int)) = false := by simp
    simp only [b10b, e57, e58, e1, rwA, rwB, Nat.reduceAdd, Nat.reduceMul, Nat.reduceLeDiff, Int.reduceEq, Int.reduceLT, Int.reduceLE, Int.reduceAdd, Int.reduceSub, Int.reduceMul, ↓reduceIte, Nat.reduceEqDiff, reduceCtorEq, ↓cnd_true, ↓cnd_false]
    rw [outs_some]
    exact .inr ⟨by simp, rfl, hk, by simp [Env.set, e3], by simp [Env.set, e4], by simp [Env.set, e5], by simp [Env.set, e6], by simp [Env.set, e9], by simp [Env.set, e56], by simp [Env.set, e57], by simp [Env.set, e58], le⟩

end Go.Proofs.Ytfpbmoiconopcaa.Gh
