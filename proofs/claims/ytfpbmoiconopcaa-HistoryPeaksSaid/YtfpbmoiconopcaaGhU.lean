/- HistoryPeaks: the law. -/
import Derived.Test.YtfpbmoiconopcaaGhT
set_option maxRecDepth 100000
set_option linter.unusedSimpArgs false
set_option linter.unusedVariables false
set_option maxHeartbeats 4000000
namespace Go.Proofs.Ytfpbmoiconopcaa.Gh
open Go Go.Proofs.Ytfpbmoiconopcaa.Am GaFns Go.RowKit

theorem run10 (r : Int) (s : AVal) (ps : List (Int × Int)) (H : AHeap) (hs : Sl H 2 s (PS ps)) (hid : ∀ i, i ∈ s.ids → i < H.next) (hl : ps.length ≤ 8796093021952) :
    ∃ H', AC A 10 [.agg [.int .i64 r, s]] H = some (.bool true, H') := by
  show Ans (AC A 10 [.agg [.int .i64 r, s]] H) (.bool true)
  rw [s_fn (A := A) (f := 10) (x := GaFns.c10) rfl rfl rfl]
  obtain ⟨K, eK⟩ : ∃ K, H.new (.cells [.int .i64 r, s] true) = K := ⟨_, rfl⟩
  have kK : Keeps H K := by rw [← eK]; exact Keeps.new _ _
  have nK : K.next = H.next + 1 := by rw [← eK]; rfl
  have oK : K.obj H.next = some (.cells [.int .i64 r, s] true) := by rw [← eK]; simp [AHeap.new]
  have hsK := hs.keep hid kK
  have hidK : ∀ i, i ∈ s.ids → i < K.next := fun i hi => by have := hid i hi; omega
  obtain ⟨v, K2, u34, kK2, hv, hvi, hvc⟩ := U34 hsK hidK hl r
  have hn2 : H.next + 1 ≤ K2.next := by have := kK2.1; omega
  have oK2 : K2.obj H.next = some (.cells [.int .i64 r, s] true) := by rw [kK2.2 _ (by omega)]; exact oK
  have hsK2 := hsK.keep hidK kK2
  obtain ⟨N, eN⟩ : ∃ N, K2.next = N := ⟨_, rfl⟩
  obtain ⟨K3, eK3⟩ : ∃ K3, (K2.new (.cells [.int .i64 0, .nils] true)).set N (.cells [.int .i64 r, v] true) = K3 := ⟨_, rfl⟩
  have nK3 : K3.next = N + 1 := by rw [← eK3, ← eN]; simp [set_next, new_next]
  have kK3 : Keeps K2 K3 := ⟨by omega, fun i hi => by rw [← eK3]; simp only [set_obj, new_obj]; rw [if_neg (by omega), if_neg (by omega)]⟩
  have oK3 : K3.obj H.next = some (.cells [.int .i64 r, s] true) := by rw [kK3.2 _ (by omega)]; exact oK2
  have oN : K3.obj N = some (.cells [.int .i64 r, v] true) := by rw [← eK3]; simp [AHeap.set]
  have hv3 := hv.keep hvi kK3
  have hvi3 : ∀ i, i ∈ v.ids → i < K3.next := fun i hi => by have := hvi i hi; omega
  have hs3 := hsK2.keep (fun i hi => by have := hidK i hi; have := kK2.1; omega) kK3
  have hlen := PS_alen hs3
  have hlv := PS_alen hv3
  have u35 := U35 (r := r) hv3 hvi3 (by omega)
  have c0 := chk0 r ps
  obtain ⟨pv, K4, u50, kK4, hp4, hpi4, hpc⟩ := U50 hv3 hvi3 hl r
  have hlp := PS_alen hp4
  by_cases q1 : (100 : Int) < (ps.length : Int)
  · rcases hvc with rfl | ⟨_, _, _, _, _, rfl⟩ <;> simp only [c10, eK, nK, oK, U33, u34, eN, eK3, nK3, oK3, oN, hlen, q1, decide_true, Bool.not_true, Bool.not_false, rwA, rwB, Nat.reduceAdd, Nat.reduceMul, Nat.reduceLeDiff, Int.reduceEq, Int.reduceLT, Int.reduceLE, Int.reduceAdd, Int.reduceSub, Int.reduceMul, ↓reduceIte, Nat.reduceEqDiff, reduceCtorEq, ↓cnd_true, ↓cnd_false]
  cases hr : right r ps <;> rw [hr] at c0
  · have ep : peaks r ps = [] := by simp [peaks, hr]
    rw [ep] at hlp
    have dz : decide (((0 : Nat) : Int) = 0) = true := by decide
    rcases hvc with rfl | ⟨_, _, _, _, _, rfl⟩ <;> simp only [c10, eK, nK, oK, U33, u34, eN, eK3, nK3, oK3, oN, hlen, q1, u35, c0, u50, hlp, dz, decide_true, decide_false, Bool.not_true, Bool.not_false, rwA, rwB, Nat.reduceAdd, Nat.reduceMul, Nat.reduceLeDiff, Int.reduceEq, Int.reduceLT, Int.reduceLE, Int.reduceAdd, Int.reduceSub, Int.reduceMul, ↓reduceIte, Nat.reduceEqDiff, reduceCtorEq, ↓cnd_true, ↓cnd_false]
  obtain ⟨_, _, hg'⟩ := right_good hr
  have hg := good_of.1 hg'
  have ep : peaks r ps = pks ps ps.length := by simp [peaks, hr]
  rw [ep] at hp4 hlp
  have hv4 := hv3.keep hvi3 kK4
  have hvi4 : ∀ i, i ∈ v.ids → i < K4.next := fun i hi => by have := hvi3 i hi; have := kK4.1; omega
  have oN4 : K4.obj N = some (.cells [.int .i64 r, v] true) := by rw [kK4.2 _ (by omega)]; exact oN
  have hN4 : N < K4.next := by have := kK4.1; omega
  have hlv4 := PS_alen hv4
  have keyA : ∀ env : Env, env 5 = .int .i64 (-1) → env 41 = v → env 42 = .int .i64 (ps.length : Int) → env 43 = .int .i64 0 → _ := fun env => loop10a (env := env) hv4 hvi4 hl
  have e0 : decide ((ps.length : Int) = 0) = fnd ps 0 := by
    unfold fnd
    simp
  have hfin := fnd_all hg
  have hboth : ∀ b, decide ((ps.length : Int) = 0) = b → decide (((pks ps ps.length).length : Int) = 0) = b := by
    rintro b rfl
    by_cases h0 : ps.length = 0
    · have := pks_len ps ps.length
      rw [decide_eq_true (show (ps.length : Int) = 0 by omega), decide_eq_true (show ((pks ps ps.length).length : Int) = 0 by omega)]
    · obtain ⟨k, hk, _⟩ := peak_most hg h0
      rw [decide_eq_false (show ¬ (ps.length : Int) = 0 by omega), decide_eq_false (show ¬ ((pks ps ps.length).length : Int) = 0 by omega)]
  rcases hvc with rfl | ⟨v1, v2, v3, v4, v5, rfl⟩
  all_goals
    simp only [c10, eK, nK, oK, U33, u34, eN, eK3, nK3, oK3, oN, hlen, q1, u35, c0, u50, oN4, hlv4, decide_true, decide_false, Bool.not_true, Bool.not_false, rwA, rwB, Nat.reduceAdd, Nat.reduceMul, Nat.reduceLeDiff, Int.reduceEq, Int.reduceLT, Int.reduceLE, Int.reduceAdd, Int.reduceSub, Int.reduceMul, ↓reduceIte, Nat.reduceEqDiff, reduceCtorEq, ↓cnd_true, ↓cnd_false]
    repeat (first | refine outs_seq ?_ | refine outs_block ?_ | refine outs_step ?_ | refine outs_stepD ?_ | refine rets_end ?_ | refine ans_end ?_)
    refine (keyA _ ?_ ?_ ?_ ?_).mono ?_
    · simp [Env.set]
    · simp [Env.set]
    · simp [Env.set]
    · simp [Env.set]
    · rintro e env K5 ⟨rfl, hk5, h5, hE⟩
      have a3 : env 3 = .ptr N 0 := by rw [hE 3 (by omega) (by omega) (by omega)]; simp [Env.set]
      have a4 : env 4 = pv := by rw [hE 4 (by omega) (by omega) (by omega)]; simp [Env.set]
      have a6 : env 6 = .int .i64 (-1) := by rw [hE 6 (by omega) (by omega) (by omega)]; simp [Env.set]
      have oN5 := (hk5.2 _ hN4).trans oN4
      have hp5 := hp4.keep hpi4 hk5
      have hpi5 : ∀ i, i ∈ pv.ids → i < K5.next := fun i hi => by have := hpi4 i hi; have := hk5.1; omega
      have hv5 := hv4.keep hvi4 hk5
      have hlp5 := PS_alen hp5
      have hlv5 := PS_alen hv5
      simp only [outs_some, a3, a4, a6, h5, oN5, hlv5, hlp5, e0, rwA, rwB, Nat.reduceAdd, Nat.reduceMul, Nat.reduceLeDiff, Int.reduceEq, Int.reduceLT, Int.reduceLE, Int.reduceAdd, Int.reduceSub, Int.reduceMul, ↓reduceIte, Nat.reduceEqDiff, reduceCtorEq, ↓cnd_true, ↓cnd_false]
      repeat (first | refine outs_seq ?_ | refine outs_block ?_ | refine outs_step ?_ | refine outs_stepD ?_ | refine rets_end ?_ | refine ans_end ?_)
      refine (loop10b (K0 := K5) (N := N) (pv := pv) (ps := ps) oN5 (by have := hk5.1; omega) hv5 (fun i hi => by have := hvi4 i hi; have := hk5.1; omega) (by omega) hp5 hpi5 hg (by first | exact .inl rfl | exact .inr ⟨_, _, _, _, _, rfl⟩) ⟨Keeps.refl _, ?_, ?_, ?_, ?_, ?_, ?_, ?_, ?_, Nat.zero_le _⟩).mono ?_
      · simp [Env.set, a3]
      · simp [Env.set, a4]
      · simp [Env.set, h5]
      · simp [Env.set, a6, aK]
      · simp [Env.set]
      · simp [Env.set, a4]
      · simp [Env.set]
      · simp [Env.set]
      · rintro e env2 K6 ⟨rfl, hk6, b3, b4, b5, b6, b9, b56, b57, b58, _⟩
        rw [hfin] at b9
        have oN6 := (hk6.2 N (by have := hk5.1; omega)).trans oN5
        have hlp6 := PS_alen (hp5.keep hpi5 hk6)
        have hlv6 := PS_alen (hv5.keep (fun i hi => by have := hvi4 i hi; have := hk5.1; omega) hk6)
        cases hb : fnd ps 0
        · rw [hb] at e0
          have e2 := hboth _ e0
          simp only [outs_some, b3, b4, b9, oN6, hlp6, hlv6, e0, e2, rwA, rwB, Nat.reduceAdd, Nat.reduceMul, Nat.reduceLeDiff, Int.reduceEq, Int.reduceLT, Int.reduceLE, Int.reduceAdd, Int.reduceSub, Int.reduceMul, ↓reduceIte, Nat.reduceEqDiff, reduceCtorEq, ↓cnd_true, ↓cnd_false]
        · rw [hb] at e0
          have e2 := hboth _ e0
          simp only [outs_some, b3, b4, b9, oN6, hlp6, hlv6, e0, e2, rwA, rwB, Nat.reduceAdd, Nat.reduceMul, Nat.reduceLeDiff, Int.reduceEq, Int.reduceLT, Int.reduceLE, Int.reduceAdd, Int.reduceSub, Int.reduceMul, ↓reduceIte, Nat.reduceEqDiff, reduceCtorEq, ↓cnd_true, ↓cnd_false]

theorem law10 (H : AHeap) (args : List AVal) (dats : List Dat) (h : AArgs Try.prog H [46] args dats) : ∃ k H', acall A k 10 args H = some (.bool true, H') := by
  obtain ⟨v0, r, d0, ds, rfl, rfl, h0, h⟩ := args_cons h
  obtain rfl := args_nil h
  obtain ⟨r, s, ps, rfl, hs, hid, hl⟩ := arg46 h0
  obtain ⟨H', hr⟩ := run10 r s ps H hs hid hl
  obtain ⟨k, hk⟩ := AC_iff.1 hr
  exact ⟨k, H', hk⟩

end Go.Proofs.Ytfpbmoiconopcaa.Gh
