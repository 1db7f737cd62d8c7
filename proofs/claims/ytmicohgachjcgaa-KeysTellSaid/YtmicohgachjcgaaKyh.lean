/- The keys' chapter: the law of beginnings. -/
import Derived.Test.YtmicohgachjcgaaKyg
set_option maxRecDepth 100000
set_option linter.unusedSimpArgs false
set_option linter.unusedVariables false
set_option maxHeartbeats 4000000
namespace Go.Proofs.Ytmicohgachjcgaa.Re
open Go Go.Proofs.Ytmicohgachjcgaa.Am ReFns Go.RowKit

theorem key_len {k : Key} (h : k.right = true) : k.bytes.length ≤ 60 := by
  obtain ⟨hk, hb, hn, _⟩ := right_is' h
  unfold Key.bytes Key.tail
  have lf := front_len k.kind k.ten
  split
  · simp only [List.length_append, List.length_cons, len8]; omega
  · split
    · simp only [List.length_append, List.length_cons, len8]; omega
    · split
      · simp only [List.length_append, List.length_cons, len8, len1]; omega
      · simp only [List.length_append, List.length_nil]; omega
theorem bucketsp_len (t : Int) : (bucketsp t).length ≤ 60 := by
  unfold bucketsp
  exact sure_len _ _ _ fun _ => by rw [front_len]; omega
theorem allp_len (k t : Int) (b : List UInt8) : (allp k t b).length ≤ 60 := by
  unfold allp
  refine sure_len _ _ _ fun h => ?_
  simp only [Bool.and_eq_true] at h
  have := bn_len h.2.2
  simp only [List.length_append, front_len, List.length_cons, List.length_nil]; omega
theorem chainp_len (t : Int) (b s : List UInt8) : (chainp t b s).length ≤ 60 := by
  unfold chainp
  refine sure_len _ _ _ fun h => ?_
  simp only [Bool.and_eq_true] at h
  have := bn_len h.1.2
  have := ky_len h.2
  simp only [List.length_append, front_len, List.length_cons, List.length_nil]; omega
theorem piecep_len (t : Int) (b : List UInt8) (n : Nat) : (piecep t b n).length ≤ 60 := by
  unfold piecep
  refine sure_len _ _ _ fun h => ?_
  simp only [Bool.and_eq_true] at h
  have := bn_len h.2
  simp only [List.length_append, front_len, List.length_cons, List.length_nil, len8]; omega

theorem run14 (k t : Int) (b s : List UInt8) (n : Nat) (p : Int) (k2 t2 : Int) (b2 s2 : List UInt8) (n2 : Nat) (hn : n < 18446744073709551616) (hn2 : n2 < 18446744073709551616) (H : AHeap) :
    Ans (AC A 14 [.agg [.int .i64 k, .int .i64 t, .str b, .str s, .int .u64 (n : Int), .int .i64 p], .int .i64 k2, .int .i64 t2, .str b2, .str s2, .int .u64 (n2 : Int)] H) (.bool true) := by
  rw [s_fn (A := A) (f := 14) (x := ReFns.c14) rfl rfl rfl]
  have u66 := U66 k t b s n p
  have u65 := U65 k t b s n p hn
  cases R : Key.right ⟨k, t, b, s, n, p⟩ <;> rw [R] at u65
  · generalize Key.bytes ⟨k, t, b, s, n, p⟩ = X at *
    simp only [c14, U64, u66, u65, chk_f, rwA, rwB, Nat.reduceAdd, Nat.reduceMul, Nat.reduceLeDiff, Int.reduceEq, Int.reduceLT, Int.reduceLE, Int.reduceAdd, Int.reduceSub, Int.reduceMul, ↓reduceIte, Nat.reduceEqDiff, reduceCtorEq, ↓cnd_true, ↓cnd_false]
  · have e2 := begs2 ⟨k, t, b, s, n, p⟩ R t2
    have e3 := begs3 ⟨k, t, b, s, n, p⟩ R k2 t2 b2
    have e4 := begs4 ⟨k, t, b, s, n, p⟩ R t2 b2 s2
    have e5 := begs5 ⟨k, t, b, s, n, p⟩ R t2 b2 n2 hn hn2
    have lx := key_len R
    have u72 := U72 t2
    have u74 := U74 k2 t2 b2
    have u76 := U76 t2 b2 s2
    have u78 := U78 t2 b2 n2
    have v2 := U80 (Key.bytes ⟨k, t, b, s, n, p⟩) (bucketsp t2) (by omega) (by have := bucketsp_len t2; omega)
    have v3 := U80 (Key.bytes ⟨k, t, b, s, n, p⟩) (allp k2 t2 b2) (by omega) (by have := allp_len k2 t2 b2; omega)
    have v4 := U80 (Key.bytes ⟨k, t, b, s, n, p⟩) (chainp t2 b2 s2) (by omega) (by have := chainp_len t2 b2 s2; omega)
    have v5 := U80 (Key.bytes ⟨k, t, b, s, n, p⟩) (piecep t2 b2 n2) (by omega) (by have := piecep_len t2 b2 n2; omega)
    rw [e2] at v2
    rw [e4] at v4
    rw [e5] at v5
    simp only at v2 v4 v5 e3
    have hnn : decide ((n : Int) = (n2 : Int)) = decide (n = n2) := neq' n n2
    have h25 : decide (k2 ≤ 5) = decide (k2 ≤ 5) := rfl
    generalize Key.bytes ⟨k, t, b, s, n, p⟩ = X at *
    generalize bucketsp t2 = P2 at *
    generalize chainp t2 b2 s2 = P4 at *
    generalize piecep t2 b2 n2 = P5 at *
    clear lx
    have k35 : ∀ (hh : decide (k = 3) = true), decide (k = 5) = false ∧ decide (k = 2) = false := fun hh => by
      have := of_decide_eq_true hh
      exact ⟨decide_eq_false (by omega), decide_eq_false (by omega)⟩
    have k52 : ∀ (hh : decide (k = 5) = true), decide (k = 2) = false := fun hh => decide_eq_false (by have := of_decide_eq_true hh; omega)
    -- with what the middle question answers
    by_cases hk2 : 3 ≤ k2 ∧ k2 ≤ 5
    · rw [e3 hk2] at v3
      generalize allp k2 t2 b2 = P3 at *
      have w3 : decide (3 ≤ k2) = true := decide_eq_true hk2.1
      have w5 : decide (k2 ≤ 5) = true := decide_eq_true hk2.2
      clear e2 e3 e4 e5 hk2
      cases d1 : decide (t = t2) <;> rw [d1] at v2 v3 v4 v5
      · simp only [Bool.false_and] at v3 v4 v5
        cases d8 : decide (k = 2) <;> rw [d8] at v2 <;>
          simp only [c14, U64, u66, u65, chk_t, sure_t, u72, u74, u76, u78, v2, v3, v4, v5, d1, d8, w3, w5, Bool.and_true, Bool.and_false, Bool.false_and, Bool.true_and, rwA, rwB, Nat.reduceAdd, Nat.reduceMul, Nat.reduceLeDiff, Int.reduceEq, Int.reduceLT, Int.reduceLE, Int.reduceAdd, Int.reduceSub, Int.reduceMul, ↓reduceIte, Nat.reduceEqDiff, reduceCtorEq, ↓cnd_true, ↓cnd_false]
      · cases d2 : decide (b = b2) <;> rw [d2] at v3 v4 v5
        · simp only [Bool.false_and, Bool.and_false] at v3 v4 v5
          cases d8 : decide (k = 2) <;> rw [d8] at v2 <;>
            simp only [c14, U64, u66, u65, chk_t, sure_t, u72, u74, u76, u78, v2, v3, v4, v5, d1, d2, lbe, d8, w3, w5, Bool.and_true, Bool.and_false, Bool.false_and, Bool.true_and, rwA, rwB, Nat.reduceAdd, Nat.reduceMul, Nat.reduceLeDiff, Int.reduceEq, Int.reduceLT, Int.reduceLE, Int.reduceAdd, Int.reduceSub, Int.reduceMul, ↓reduceIte, Nat.reduceEqDiff, reduceCtorEq, ↓cnd_true, ↓cnd_false]
        · cases d3 : decide (k = k2) <;> rw [d3] at v3
          · cases d4 : decide (k = 3) <;> rw [d4] at v4
            · cases d6 : decide (k = 5) <;> rw [d6] at v5
              · cases d8 : decide (k = 2) <;> rw [d8] at v2 <;>
                  simp only [c14, U64, u66, u65, chk_t, sure_t, u72, u74, u76, u78, v2, v3, v4, v5, d1, lbe, d2, d3, w3, w5, Bool.and_true, Bool.and_false, Bool.false_and, Bool.true_and, d4, d6, d8, rwA, rwB, Nat.reduceAdd, Nat.reduceMul, Nat.reduceLeDiff, Int.reduceEq, Int.reduceLT, Int.reduceLE, Int.reduceAdd, Int.reduceSub, Int.reduceMul, ↓reduceIte, Nat.reduceEqDiff, reduceCtorEq, ↓cnd_true, ↓cnd_false]
              · have d8 := k52 d6
                rw [d8] at v2
                cases d7 : decide (n = n2) <;> rw [d7] at v5 hnn <;>
                  simp only [c14, U64, u66, u65, chk_t, sure_t, u72, u74, u76, u78, v2, v3, v4, v5, d1, lbe, d2, d3, w3, w5, Bool.and_true, Bool.and_false, Bool.false_and, Bool.true_and, d4, d6, hnn, d8, rwA, rwB, Nat.reduceAdd, Nat.reduceMul, Nat.reduceLeDiff, Int.reduceEq, Int.reduceLT, Int.reduceLE, Int.reduceAdd, Int.reduceSub, Int.reduceMul, ↓reduceIte, Nat.reduceEqDiff, reduceCtorEq, ↓cnd_true, ↓cnd_false]
            · obtain ⟨d6, d8⟩ := k35 d4
              rw [d8] at v2
              rw [d6] at v5
              cases d5 : decide (s = s2) <;> rw [d5] at v4 <;>
                simp only [c14, U64, u66, u65, chk_t, sure_t, u72, u74, u76, u78, v2, v3, v4, v5, d1, lbe, d2, d3, w3, w5, Bool.and_true, Bool.and_false, Bool.false_and, Bool.true_and, d4, d5, d6, d8, rwA, rwB, Nat.reduceAdd, Nat.reduceMul, Nat.reduceLeDiff, Int.reduceEq, Int.reduceLT, Int.reduceLE, Int.reduceAdd, Int.reduceSub, Int.reduceMul, ↓reduceIte, Nat.reduceEqDiff, reduceCtorEq, ↓cnd_true, ↓cnd_false]
          · cases d4 : decide (k = 3) <;> rw [d4] at v4
            · cases d6 : decide (k = 5) <;> rw [d6] at v5
              · cases d8 : decide (k = 2) <;> rw [d8] at v2 <;>
                  simp only [c14, U64, u66, u65, chk_t, sure_t, u72, u74, u76, u78, v2, v3, v4, v5, d1, lbe, d2, d3, w3, w5, Bool.and_true, Bool.and_false, Bool.false_and, Bool.true_and, d4, d6, d8, rwA, rwB, Nat.reduceAdd, Nat.reduceMul, Nat.reduceLeDiff, Int.reduceEq, Int.reduceLT, Int.reduceLE, Int.reduceAdd, Int.reduceSub, Int.reduceMul, ↓reduceIte, Nat.reduceEqDiff, reduceCtorEq, ↓cnd_true, ↓cnd_false]
              · have d8 := k52 d6
                rw [d8] at v2
                cases d7 : decide (n = n2) <;> rw [d7] at v5 hnn <;>
                  simp only [c14, U64, u66, u65, chk_t, sure_t, u72, u74, u76, u78, v2, v3, v4, v5, d1, lbe, d2, d3, w3, w5, Bool.and_true, Bool.and_false, Bool.false_and, Bool.true_and, d4, d6, hnn, d8, rwA, rwB, Nat.reduceAdd, Nat.reduceMul, Nat.reduceLeDiff, Int.reduceEq, Int.reduceLT, Int.reduceLE, Int.reduceAdd, Int.reduceSub, Int.reduceMul, ↓reduceIte, Nat.reduceEqDiff, reduceCtorEq, ↓cnd_true, ↓cnd_false]
            · obtain ⟨d6, d8⟩ := k35 d4
              rw [d8] at v2
              rw [d6] at v5
              cases d5 : decide (s = s2) <;> rw [d5] at v4 <;>
                simp only [c14, U64, u66, u65, chk_t, sure_t, u72, u74, u76, u78, v2, v3, v4, v5, d1, lbe, d2, d3, w3, w5, Bool.and_true, Bool.and_false, Bool.false_and, Bool.true_and, d4, d5, d6, d8, rwA, rwB, Nat.reduceAdd, Nat.reduceMul, Nat.reduceLeDiff, Int.reduceEq, Int.reduceLT, Int.reduceLE, Int.reduceAdd, Int.reduceSub, Int.reduceMul, ↓reduceIte, Nat.reduceEqDiff, reduceCtorEq, ↓cnd_true, ↓cnd_false]
    · have hw : (decide (3 ≤ k2) = false ∧ decide (3 ≤ k2) = false) ∨ (decide (3 ≤ k2) = true ∧ decide (k2 ≤ 5) = false) := by
        by_cases h3 : 3 ≤ k2
        · exact .inr ⟨decide_eq_true h3, decide_eq_false (by omega)⟩
        · exact .inl ⟨decide_eq_false h3, decide_eq_false h3⟩
      clear e2 e3 e4 e5 hk2 v3
      cases d1 : decide (t = t2) <;> rw [d1] at v2 v4 v5
      · simp only [Bool.false_and] at v4 v5
        cases d8 : decide (k = 2) <;> rw [d8] at v2 <;> rcases hw with ⟨w3, w5⟩ | ⟨w3, w5⟩ <;>
          simp only [c14, U64, u66, u65, chk_t, sure_t, u72, u74, u76, u78, v2, v4, v5, d1, d8, w3, w5, Bool.and_true, Bool.and_false, Bool.false_and, Bool.true_and, rwA, rwB, Nat.reduceAdd, Nat.reduceMul, Nat.reduceLeDiff, Int.reduceEq, Int.reduceLT, Int.reduceLE, Int.reduceAdd, Int.reduceSub, Int.reduceMul, ↓reduceIte, Nat.reduceEqDiff, reduceCtorEq, ↓cnd_true, ↓cnd_false]
      · cases d2 : decide (b = b2) <;> rw [d2] at v4 v5
        · simp only [Bool.false_and, Bool.and_false] at v4 v5
          cases d8 : decide (k = 2) <;> rw [d8] at v2 <;> rcases hw with ⟨w3, w5⟩ | ⟨w3, w5⟩ <;>
            simp only [c14, U64, u66, u65, chk_t, sure_t, u72, u74, u76, u78, v2, v4, v5, d1, d2, lbe, d8, w3, w5, Bool.and_true, Bool.and_false, Bool.false_and, Bool.true_and, rwA, rwB, Nat.reduceAdd, Nat.reduceMul, Nat.reduceLeDiff, Int.reduceEq, Int.reduceLT, Int.reduceLE, Int.reduceAdd, Int.reduceSub, Int.reduceMul, ↓reduceIte, Nat.reduceEqDiff, reduceCtorEq, ↓cnd_true, ↓cnd_false]
        · rcases hw with ⟨w3, w5⟩ | ⟨w3, w5⟩
          · cases d4 : decide (k = 3) <;> rw [d4] at v4
            · cases d6 : decide (k = 5) <;> rw [d6] at v5
              · cases d8 : decide (k = 2) <;> rw [d8] at v2 <;>
                  simp only [c14, U64, u66, u65, chk_t, sure_t, u72, u74, u76, u78, v2, v4, v5, d1, lbe, d2, w3, Bool.and_true, Bool.and_false, Bool.false_and, Bool.true_and, d4, d6, d8, rwA, rwB, Nat.reduceAdd, Nat.reduceMul, Nat.reduceLeDiff, Int.reduceEq, Int.reduceLT, Int.reduceLE, Int.reduceAdd, Int.reduceSub, Int.reduceMul, ↓reduceIte, Nat.reduceEqDiff, reduceCtorEq, ↓cnd_true, ↓cnd_false]
              · have d8 := k52 d6
                rw [d8] at v2
                cases d7 : decide (n = n2) <;> rw [d7] at v5 hnn <;>
                  simp only [c14, U64, u66, u65, chk_t, sure_t, u72, u74, u76, u78, v2, v4, v5, d1, lbe, d2, w3, Bool.and_true, Bool.and_false, Bool.false_and, Bool.true_and, d4, d6, hnn, d8, rwA, rwB, Nat.reduceAdd, Nat.reduceMul, Nat.reduceLeDiff, Int.reduceEq, Int.reduceLT, Int.reduceLE, Int.reduceAdd, Int.reduceSub, Int.reduceMul, ↓reduceIte, Nat.reduceEqDiff, reduceCtorEq, ↓cnd_true, ↓cnd_false]
            · obtain ⟨d6, d8⟩ := k35 d4
              rw [d8] at v2
              rw [d6] at v5
              cases d5 : decide (s = s2) <;> rw [d5] at v4 <;>
                simp only [c14, U64, u66, u65, chk_t, sure_t, u72, u74, u76, u78, v2, v4, v5, d1, lbe, d2, w3, Bool.and_true, Bool.and_false, Bool.false_and, Bool.true_and, d4, d5, d6, d8, rwA, rwB, Nat.reduceAdd, Nat.reduceMul, Nat.reduceLeDiff, Int.reduceEq, Int.reduceLT, Int.reduceLE, Int.reduceAdd, Int.reduceSub, Int.reduceMul, ↓reduceIte, Nat.reduceEqDiff, reduceCtorEq, ↓cnd_true, ↓cnd_false]
          · cases d4 : decide (k = 3) <;> rw [d4] at v4
            · cases d6 : decide (k = 5) <;> rw [d6] at v5
              · cases d8 : decide (k = 2) <;> rw [d8] at v2 <;>
                  simp only [c14, U64, u66, u65, chk_t, sure_t, u72, u74, u76, u78, v2, v4, v5, d1, lbe, d2, w3, w5, Bool.and_true, Bool.and_false, Bool.false_and, Bool.true_and, d4, d6, d8, rwA, rwB, Nat.reduceAdd, Nat.reduceMul, Nat.reduceLeDiff, Int.reduceEq, Int.reduceLT, Int.reduceLE, Int.reduceAdd, Int.reduceSub, Int.reduceMul, ↓reduceIte, Nat.reduceEqDiff, reduceCtorEq, ↓cnd_true, ↓cnd_false]
              · have d8 := k52 d6
                rw [d8] at v2
                cases d7 : decide (n = n2) <;> rw [d7] at v5 hnn <;>
                  simp only [c14, U64, u66, u65, chk_t, sure_t, u72, u74, u76, u78, v2, v4, v5, d1, lbe, d2, w3, w5, Bool.and_true, Bool.and_false, Bool.false_and, Bool.true_and, d4, d6, hnn, d8, rwA, rwB, Nat.reduceAdd, Nat.reduceMul, Nat.reduceLeDiff, Int.reduceEq, Int.reduceLT, Int.reduceLE, Int.reduceAdd, Int.reduceSub, Int.reduceMul, ↓reduceIte, Nat.reduceEqDiff, reduceCtorEq, ↓cnd_true, ↓cnd_false]
            · obtain ⟨d6, d8⟩ := k35 d4
              rw [d8] at v2
              rw [d6] at v5
              cases d5 : decide (s = s2) <;> rw [d5] at v4 <;>
                simp only [c14, U64, u66, u65, chk_t, sure_t, u72, u74, u76, u78, v2, v4, v5, d1, lbe, d2, w3, w5, Bool.and_true, Bool.and_false, Bool.false_and, Bool.true_and, d4, d5, d6, d8, rwA, rwB, Nat.reduceAdd, Nat.reduceMul, Nat.reduceLeDiff, Int.reduceEq, Int.reduceLT, Int.reduceLE, Int.reduceAdd, Int.reduceSub, Int.reduceMul, ↓reduceIte, Nat.reduceEqDiff, reduceCtorEq, ↓cnd_true, ↓cnd_false]

theorem law14 (H : AHeap) (args : List AVal) (dats : List Dat) (h : AArgs Try.prog H [98, 3, 3, 9, 9, 22] args dats) : ∃ k H', acall A k 14 args H = some (.bool true, H') := by
  obtain ⟨v0, r, d0, ds, rfl, rfl, h0, h⟩ := args_cons h
  obtain ⟨v1, r, d1, ds, rfl, rfl, h1, h⟩ := args_cons h
  obtain ⟨v2, r, d2, ds, rfl, rfl, h2, h⟩ := args_cons h
  obtain ⟨v3, r, d3, ds, rfl, rfl, h3, h⟩ := args_cons h
  obtain ⟨v4, r, d4, ds, rfl, rfl, h4, h⟩ := args_cons h
  obtain ⟨v5, r, d5, ds, rfl, rfl, h5, h⟩ := args_cons h
  obtain rfl := args_nil h
  obtain ⟨k, t, b, s, n, p, rfl, hn, _, _⟩ := arg98 h0
  obtain ⟨k2, rfl, _⟩ := arg_int Try.underlying3 h1
  obtain ⟨t2, rfl, _⟩ := arg_int Try.underlying3 h2
  obtain ⟨b2, rfl, _⟩ := arg_str Try.underlying9 h3
  obtain ⟨s2, rfl, _⟩ := arg_str Try.underlying9 h4
  obtain ⟨n2, rfl, _, hn0, hn1⟩ := arg_int Try.underlying22 h5
  simp [IntKind.min, IntKind.max, IntKind.signed, IntKind.bits] at hn0 hn1
  obtain ⟨H', hr⟩ := run14 k t b s n p k2 t2 b2 s2 n2.toNat hn (by omega) H
  rw [Int.toNat_of_nonneg hn0] at hr
  obtain ⟨k, hk⟩ := AC_iff.1 hr
  exact ⟨k, H', hk⟩

end Go.Proofs.Ytmicohgachjcgaa.Re
