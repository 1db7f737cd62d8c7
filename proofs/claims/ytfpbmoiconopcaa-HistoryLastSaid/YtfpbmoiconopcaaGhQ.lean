/- HistoryLast. -/
import Derived.Test.YtfpbmoiconopcaaGhP
set_option maxRecDepth 100000
set_option linter.unusedSimpArgs false
set_option linter.unusedVariables false
set_option maxHeartbeats 4000000
namespace Go.Proofs.Ytfpbmoiconopcaa.Gh
open Go Go.Proofs.Ytfpbmoiconopcaa.Am GaFns Go.RowKit

theorem loop9 {s : AVal} {ps : List (Int × Int)} {p : Nat} {r : Int} {env : Env} {K : AHeap} (hr : 1 ≤ r ∧ r ≤ 64) (h200 : ps.length ≤ 200) (h : J9 s ps p r 0 env K .nils .nils []) :
    Outs (AX A (.loop b9) env K) fun e _ _ => e = .exit 0 := by
  refine loop_ends (I := fun (j : Nat) env' K' => ∃ v hs all, J9 s ps p r j env' K' v hs all) (fun j => ps.length - j) ?_ 0 env K ⟨_, _, _, h⟩
  rintro j env' K' ⟨v, hs, all, hJ⟩
  by_cases hlt : j < ps.length
  · cases hm : may9 all ps[j].1 ps[j].2
    · refine (round9f hr hJ hlt h200 hm).mono ?_
      rintro e env2 K2 ⟨rfl, h2⟩
      exact .inl ⟨rfl, j + 1, by omega, _, _, _, h2⟩
    · refine (round9t hr hJ hlt h200 hm).mono ?_
      rintro e env2 K2 ⟨rfl, h2⟩
      exact .inl ⟨rfl, j + 1, by omega, h2⟩
  · have hj := hJ.hj
    have : j = ps.length := by omega
    subst this
    have a48 := hJ.e48
    have a49 := hJ.e49
    have d1 : decide ((ps.length : Int) < (ps.length : Int)) = false := by simp
    simp only [b9, a48, a49, d1, rwA, rwB, Nat.reduceAdd, Nat.reduceMul, Nat.reduceLeDiff, Int.reduceEq, Int.reduceLT, Int.reduceLE, Int.reduceAdd, Int.reduceSub, Int.reduceMul, ↓reduceIte, Nat.reduceEqDiff, reduceCtorEq, ↓cnd_true, ↓cnd_false]
    rw [outs_some]
    exact .inr ⟨by simp, rfl⟩

theorem run9 (r : Int) (s : AVal) (ps : List (Int × Int)) (H : AHeap) (hs : Sl H 2 s (PS ps)) (hid : ∀ i, i ∈ s.ids → i < H.next) (hl : ps.length ≤ 8796093021952) :
    ∃ H', AC A 9 [.int .i64 r, s] H = some (.bool true, H') := by
  show Ans (AC A 9 [.int .i64 r, s] H) (.bool true)
  rw [s_fn (A := A) (f := 9) (x := GaFns.c9) rfl rfl rfl]
  have er : right r [] = (decide (1 ≤ r) && decide (r ≤ 64)) := by
    unfold right goodN
    cases h1 : decide (1 ≤ r)
    · rfl
    · have : decide (((([] : List (Int × Int)).length : Nat) : Int) ≤ r) = true := by
        rw [decide_eq_true_eq] at h1 ⊢
        simp; omega
      rw [this]; simp
  have u52 := U52 r H
  rw [show chk r [] = if right r [] then 0 else 18 from rfl, er] at u52
  have hlen := PS_alen (hs.keep hid (Keeps.new H (.cells [.int .i64 0, .nils] true)))
  have dz : decide ((18 : Int) = 0) = false := by decide
  cases d1 : decide (1 ≤ r)
  · rw [d1] at u52
    simp only [c9, U33, u52, d1, dz, hlen, Bool.false_and, if_false, Bool.false_eq_true, Bool.not_true, Bool.not_false, rwA, rwB, Nat.reduceAdd, Nat.reduceMul, Nat.reduceLeDiff, Int.reduceEq, Int.reduceLT, Int.reduceLE, Int.reduceAdd, Int.reduceSub, Int.reduceMul, ↓reduceIte, Nat.reduceEqDiff, reduceCtorEq, ↓cnd_true, ↓cnd_false]
  cases d2 : decide (r ≤ 64)
  · rw [d1, d2] at u52
    simp only [c9, U33, u52, d1, d2, dz, hlen, Bool.and_false, Bool.false_and, if_false, Bool.false_eq_true, Bool.not_true, Bool.not_false, rwA, rwB, Nat.reduceAdd, Nat.reduceMul, Nat.reduceLeDiff, Int.reduceEq, Int.reduceLT, Int.reduceLE, Int.reduceAdd, Int.reduceSub, Int.reduceMul, ↓reduceIte, Nat.reduceEqDiff, reduceCtorEq, ↓cnd_true, ↓cnd_false]
  rw [d1, d2] at u52
  simp only [Bool.and_self, if_true] at u52
  by_cases q1 : (200 : Int) < (ps.length : Int)
  · have e1 : decide ((200 : Int) < (ps.length : Int)) = true := decide_eq_true q1
    have hl0 : ∀ K : AHeap, alenT false s = some ps.length := fun _ => PS_alen hs
    have hl1 := hl0 H
    simp only [c9, U33, u52, d1, d2, e1, hl1, Bool.not_true, Bool.not_false, rwA, rwB, Nat.reduceAdd, Nat.reduceMul, Nat.reduceLeDiff, Int.reduceEq, Int.reduceLT, Int.reduceLE, Int.reduceAdd, Int.reduceSub, Int.reduceMul, ↓reduceIte, Nat.reduceEqDiff, reduceCtorEq, ↓cnd_true, ↓cnd_false]
  · have e1 : decide ((200 : Int) < (ps.length : Int)) = false := decide_eq_false q1
    have hl1 : alenT false s = some ps.length := PS_alen hs
    have hr : 1 ≤ r ∧ r ≤ 64 := ⟨of_decide_eq_true d1, of_decide_eq_true d2⟩
    have hJ : ∀ env : Env, env 0 = .int .i64 r → env 5 = .ptr H.next 0 → env 7 = .nils → env 47 = s → env 48 = .int .i64 (ps.length : Int) → env 49 = .int .i64 0 → J9 s ps H.next r 0 env ((H.new (.cells [.int .i64 0, .nils] true)).set H.next (.cells [.int .i64 r, .nils] true)) .nils .nils [] := by
      intro env a0 a5 a7 a47 a48 a49
      have kk : Keeps H ((H.new (.cells [.int .i64 0, .nils] true)).set H.next (.cells [.int .i64 r, .nils] true)) := ⟨by simp [set_next, new_next], fun i hi => by simp only [set_obj, new_obj]; rw [if_neg (by omega), if_neg (by omega)]⟩
      exact ⟨a0, a5, a7, a47, a48, a49, by simp [AHeap.set], by simp [set_next, new_next], hs.keep hid kk, hid, .inl ⟨rfl, rfl⟩, by simp [AVal.ids], .inl ⟨rfl, by simp [lastN, PS]⟩, by simp [AVal.ids], .inl rfl, Good.nil, by simp, by omega⟩
    simp only [c9, U33, u52, d1, d2, e1, hl1, Bool.not_true, Bool.not_false, rwA, rwB, Nat.reduceAdd, Nat.reduceMul, Nat.reduceLeDiff, Int.reduceEq, Int.reduceLT, Int.reduceLE, Int.reduceAdd, Int.reduceSub, Int.reduceMul, ↓reduceIte, Nat.reduceEqDiff, reduceCtorEq, ↓cnd_true, ↓cnd_false]
    repeat (first | refine outs_seq ?_ | refine outs_block ?_ | refine outs_step ?_ | refine outs_stepD ?_ | refine rets_end ?_ | refine ans_end ?_)
    refine (loop9 hr (by omega) (hJ _ ?_ ?_ ?_ ?_ ?_ ?_)).mono ?_
    · simp [Env.set, ainit]
    · simp [Env.set]
    · simp [Env.set]
    · simp [Env.set]
    · simp [Env.set]
    · simp [Env.set]
    · rintro e env K rfl
      simp only [outs_some, rwA, rwB, Nat.reduceAdd, Nat.reduceMul, Nat.reduceLeDiff, Int.reduceEq, Int.reduceLT, Int.reduceLE, Int.reduceAdd, Int.reduceSub, Int.reduceMul, ↓reduceIte, Nat.reduceEqDiff, reduceCtorEq, ↓cnd_true, ↓cnd_false]

theorem law9 (H : AHeap) (args : List AVal) (dats : List Dat) (h : AArgs Try.prog H [3, 44] args dats) : ∃ k H', acall A k 9 args H = some (.bool true, H') := by
  obtain ⟨v0, r, d0, ds, rfl, rfl, h0, h⟩ := args_cons h
  obtain ⟨v1, r, d1, ds, rfl, rfl, h1, h⟩ := args_cons h
  obtain rfl := args_nil h
  obtain ⟨a, rfl, _⟩ := arg_int Try.underlying3 h0
  obtain ⟨l, hs, hid, _, h3, _⟩ := arg_pairs Try.underlying44 Try.underlying48 Try.underlying2 Try.underlying2 rfl rfl cl2 cl2 cl48 h1
  rw [by48] at h3
  have e : reachBytes = 140737488351232 := rfl
  obtain ⟨H', hr⟩ := run9 a v1 l H hs hid (by omega)
  obtain ⟨k, hk⟩ := AC_iff.1 hr
  exact ⟨k, H', hk⟩

end Go.Proofs.Ytfpbmoiconopcaa.Gh
