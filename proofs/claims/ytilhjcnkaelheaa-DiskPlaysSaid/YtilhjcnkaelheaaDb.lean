/- DiskNil: a disk that is nil. -/
import Derived.Test.YtilhjcnkaelheaaDa
set_option maxRecDepth 100000
set_option linter.unusedSimpArgs false
set_option linter.unusedVariables false
set_option maxHeartbeats 2000000
namespace Go.Proofs.Ytilhjcnkaelheaa.Dk
open Go Go.Proofs.Ytilhjcnkaelheaa.Am DnFns Go.RowKit

theorem U15n (n : Int) (H : AHeap) : AC A 15 [.nilp, .int .i64 n] H = some (.tuple [], H) := by
  rw [s_fn (A := A) (f := 15) (x := DnFns.c15) rfl rfl rfl]
  simp only [c15, e_nilp1, rwA, rwB, Nat.reduceAdd, Nat.reduceMul, Nat.reduceLeDiff, Int.reduceEq, Int.reduceLT, Int.reduceLE, Int.reduceAdd, Int.reduceSub, Int.reduceMul, ↓reduceIte, Nat.reduceEqDiff, reduceCtorEq, ↓cnd_true, ↓cnd_false]
theorem U25n (H : AHeap) : AC A 25 [.nilp] H = some (.int .i64 0, H) := by
  refine look_val (x := DnFns.c25) rfl rfl rfl rfl ?_
  simp only [c25, e_nilp1, rwA, rwB, Nat.reduceAdd, Nat.reduceMul, Nat.reduceLeDiff, Int.reduceEq, Int.reduceLT, Int.reduceLE, Int.reduceAdd, Int.reduceSub, Int.reduceMul, ↓reduceIte, Nat.reduceEqDiff, reduceCtorEq, ↓cnd_true, ↓cnd_false]
theorem U45n (i : Int) (H : AHeap) : AC A 45 [.nilp, .int .i64 i] H = some (.bool false, H) := by
  refine look_val (x := DnFns.c45) rfl rfl rfl rfl ?_
  cases h : decide (0 ≤ i)
  · simp only [c45, h, rwA, rwB, Nat.reduceAdd, Nat.reduceMul, Nat.reduceLeDiff, Int.reduceEq, Int.reduceLT, Int.reduceLE, Int.reduceAdd, Int.reduceSub, Int.reduceMul, ↓reduceIte, Nat.reduceEqDiff, reduceCtorEq, ↓cnd_true, ↓cnd_false]
  · have h2 : decide (i < 0) = false := by simp at h; simp; omega
    simp only [c45, h, h2, U25n, rwA, rwB, Nat.reduceAdd, Nat.reduceMul, Nat.reduceLeDiff, Int.reduceEq, Int.reduceLT, Int.reduceLE, Int.reduceAdd, Int.reduceSub, Int.reduceMul, ↓reduceIte, Nat.reduceEqDiff, reduceCtorEq, ↓cnd_true, ↓cnd_false]
theorem U18n (i : Int) (H : AHeap) : AC A 18 [.nilp, .int .i64 i] H = some (.tuple [.str [], .int .i64 18], H) := by
  refine look_val (x := DnFns.c18) rfl rfl rfl rfl ?_
  simp only [c18, e_nilp1, U45n, rwA, rwB, Nat.reduceAdd, Nat.reduceMul, Nat.reduceLeDiff, Int.reduceEq, Int.reduceLT, Int.reduceLE, Int.reduceAdd, Int.reduceSub, Int.reduceMul, ↓reduceIte, Nat.reduceEqDiff, reduceCtorEq, ↓cnd_true, ↓cnd_false]
theorem U11n (i : Int) (s : List UInt8) (H : AHeap) : AC A 11 [.nilp, .int .i64 i, .str s] H = some (.int .i64 18, H) := by
  rw [s_fn (A := A) (f := 11) (x := DnFns.c11) rfl rfl rfl]
  simp only [c11, U45n, rwA, rwB, Nat.reduceAdd, Nat.reduceMul, Nat.reduceLeDiff, Int.reduceEq, Int.reduceLT, Int.reduceLE, Int.reduceAdd, Int.reduceSub, Int.reduceMul, ↓reduceIte, Nat.reduceEqDiff, reduceCtorEq, ↓cnd_true, ↓cnd_false]
theorem U13n (H : AHeap) : AC A 13 [.nilp] H = some (.int .i64 18, H) := by
  rw [s_fn (A := A) (f := 13) (x := DnFns.c13) rfl rfl rfl]
  simp only [c13, e_nilp1, rwA, rwB, Nat.reduceAdd, Nat.reduceMul, Nat.reduceLeDiff, Int.reduceEq, Int.reduceLT, Int.reduceLE, Int.reduceAdd, Int.reduceSub, Int.reduceMul, ↓reduceIte, Nat.reduceEqDiff, reduceCtorEq, ↓cnd_true, ↓cnd_false]
theorem U19n (H : AHeap) : AC A 19 [.nilp] H = some (.bool true, H) := by
  refine look_val (x := DnFns.c19) rfl rfl rfl rfl ?_
  simp only [c19, e_nilp1, rwA, rwB, Nat.reduceAdd, Nat.reduceMul, Nat.reduceLeDiff, Int.reduceEq, Int.reduceLT, Int.reduceLE, Int.reduceAdd, Int.reduceSub, Int.reduceMul, ↓reduceIte, Nat.reduceEqDiff, reduceCtorEq, ↓cnd_true, ↓cnd_false]
theorem U17n {v : AVal} (hv : v = .nils ∨ ∃ a b c d e, v = .slice a b c d e) (H : AHeap) : AC A 17 [.nilp, v] H = some (.int .i64 0, H.new (.cells [v] true)) := by
  rw [s_fn (A := A) (f := 17) (x := DnFns.c17) rfl rfl rfl]
  rcases hv with rfl | ⟨_, _, _, _, _, rfl⟩ <;> simp only [c17, e_nilp1, rwA, rwB, Nat.reduceAdd, Nat.reduceMul, Nat.reduceLeDiff, Int.reduceEq, Int.reduceLT, Int.reduceLE, Int.reduceAdd, Int.reduceSub, Int.reduceMul, ↓reduceIte, Nat.reduceEqDiff, reduceCtorEq, ↓cnd_true, ↓cnd_false]
theorem U16n (H : AHeap) : AC A 16 [.nilp] H = some (.int .i64 0, H) := by
  refine look_val (x := DnFns.c16) rfl rfl rfl rfl ?_
  simp only [c16, e_nilp1, rwA, rwB, Nat.reduceAdd, Nat.reduceMul, Nat.reduceLeDiff, Int.reduceEq, Int.reduceLT, Int.reduceLE, Int.reduceAdd, Int.reduceSub, Int.reduceMul, ↓reduceIte, Nat.reduceEqDiff, reduceCtorEq, ↓cnd_true, ↓cnd_false]
theorem U23n (H : AHeap) : AC A 23 [.nilp] H = some (.int .i64 0, H) := by
  refine look_val (x := DnFns.c23) rfl rfl rfl rfl ?_
  simp only [c23, e_nilp1, rwA, rwB, Nat.reduceAdd, Nat.reduceMul, Nat.reduceLeDiff, Int.reduceEq, Int.reduceLT, Int.reduceLE, Int.reduceAdd, Int.reduceSub, Int.reduceMul, ↓reduceIte, Nat.reduceEqDiff, reduceCtorEq, ↓cnd_true, ↓cnd_false]
theorem U14n (H : AHeap) : AC A 14 [.nilp] H = some (.nils, H) := by
  refine look_val (x := DnFns.c14) rfl rfl rfl rfl ?_
  simp only [c14, e_nilp1, rwA, rwB, Nat.reduceAdd, Nat.reduceMul, Nat.reduceLeDiff, Int.reduceEq, Int.reduceLT, Int.reduceLE, Int.reduceAdd, Int.reduceSub, Int.reduceMul, ↓reduceIte, Nat.reduceEqDiff, reduceCtorEq, ↓cnd_true, ↓cnd_false]
theorem U26n (H : AHeap) : AC A 26 [.nilp] H = some (.nilp, H) := by
  rw [s_fn (A := A) (f := 26) (x := DnFns.c26) rfl rfl rfl]
  simp only [c26, e_nilp1, rwA, rwB, Nat.reduceAdd, Nat.reduceMul, Nat.reduceLeDiff, Int.reduceEq, Int.reduceLT, Int.reduceLE, Int.reduceAdd, Int.reduceSub, Int.reduceMul, ↓reduceIte, Nat.reduceEqDiff, reduceCtorEq, ↓cnd_true, ↓cnd_false]
theorem cast0 : ((0 : Nat) : Int) = 0 := hid rfl

theorem run5 (i : Int) (s : List UInt8) (H : AHeap) : Ans (AC A 5 [.int .i64 i, .str s] H) (.bool true) := by
  rw [s_fn (A := A) (f := 5) (x := DnFns.c5) rfl rfl rfl]
  simp only [c5, U15n, U18n, U11n, U13n, U19n, U17n (.inr ⟨_, _, _, _, _, rfl⟩), U25n, U16n, U23n, U14n, U26n, U9, cast0, e_nilp1, len_nils, rwA, rwB, Nat.reduceAdd, Nat.reduceMul, Nat.reduceLeDiff, Int.reduceEq, Int.reduceLT, Int.reduceLE, Int.reduceAdd, Int.reduceSub, Int.reduceMul, ↓reduceIte, Nat.reduceEqDiff, reduceCtorEq, ↓cnd_true, ↓cnd_false]

theorem law5 (H : AHeap) (args : List AVal) (dats : List Dat) (h : AArgs Try.prog H [3, 9] args dats) : ∃ k H', acall A k 5 args H = some (.bool true, H') := by
  obtain ⟨v0, r, d0, ds, rfl, rfl, h0, h⟩ := args_cons h
  obtain ⟨v1, r, d1, ds, rfl, rfl, h1, h⟩ := args_cons h
  obtain rfl := args_nil h
  obtain ⟨n, rfl, _⟩ := arg_int Try.underlying3 h0
  obtain ⟨s, rfl, _⟩ := arg_str Try.underlying9 h1
  obtain ⟨H', hr⟩ := run5 n s H
  obtain ⟨k, hk⟩ := AC_iff.1 hr
  exact ⟨k, H', hk⟩

end Go.Proofs.Ytilhjcnkaelheaa.Dk
