/- The keys' chapter: both tell alike. -/
import Derived.Test.YtmicohgachjcgaaKyp
set_option maxRecDepth 100000
set_option linter.unusedSimpArgs false
set_option linter.unusedVariables false
set_option maxHeartbeats 4000000
namespace Go.Proofs.Ytmicohgachjcgaa.Re
open Go Go.Proofs.Ytmicohgachjcgaa.Am ReFns Go.RowKit

theorem run11 (k t : Int) (b s : List UInt8) (n : Nat) (p : Int) (x : List UInt8) (hn : n < 18446744073709551616) (H : AHeap) :
    Ans (AC A 11 [.agg [.int .i64 k, .int .i64 t, .str b, .str s, .int .u64 (n : Int), .int .i64 p], .str x] H) (.bool true) := by
  rw [s_fn (A := A) (f := 11) (x := ReFns.c11) rfl rfl rfl]
  cases g1 : decide ((1000 : Int) < (b.length : Int))
  · cases g2 : decide ((1000 : Int) < (s.length : Int))
    · cases g3 : decide ((1000 : Int) < (x.length : Int))
      · have hb : b.length ≤ 1000 := by have := of_decide_eq_false g1; omega
        have hs : s.length ≤ 1000 := by have := of_decide_eq_false g2; omega
        have hx : x.length ≤ 1000 := by have := of_decide_eq_false g3; omega
        have u66 := U66 k t b s n p
        have u65 := U65 k t b s n p hn
        have u67 := U67 k t b s n p (by omega) hn
        have u68 := U68 x (by omega)
        have u69 := U69 x hx
        have u70 := U70 k t b s n p
        have u71 := U71 k t b s n p (by omega)
        have u72 := U72 t
        have u73 := U73 t
        have u74 := U74 k t b
        have u75 := U75 k t b hb
        have u76 := U76 t b s
        have u77 := U77 t b s hb hs
        have u78 := U78 t b n
        have u79 := U79 t b n hb hn
        have db : ∀ x : Bool, (x == x) = true := fun x => by simp
        obtain ⟨ok, ot, ob, os, on, op, hX⟩ : ∃ ok ot ob os on op, opn x = ⟨ok, ot, ob, os, on, op⟩ := ⟨_, _, _, _, _, _, rfl⟩
        rw [hX] at u68 u69
        simp only [Key.cells] at u68 u69
        have u66o := U66 ok ot ob os on op
        generalize bad (opnOk x) = E at *
        generalize Key.bytes ⟨k, t, b, s, n, p⟩ = X at *
        cases R : Key.right ⟨k, t, b, s, n, p⟩ <;> rw [R] at u65 u67 u70 u71
        · simp only [chk_f, sure_f] at u65 u67 u70
          simp only [c11, g1, g2, g3, U64, u66, u66o, u65, u67, u68, u69, u70, u71, u72, u73, u74, u75, u76, u77, u78, u79, lbe, dl, di, db, Bool.and_self, rwA, rwB, Nat.reduceAdd, Nat.reduceMul, Nat.reduceLeDiff, Int.reduceEq, Int.reduceLT, Int.reduceLE, Int.reduceAdd, Int.reduceSub, Int.reduceMul, ↓reduceIte, Nat.reduceEqDiff, reduceCtorEq, ↓cnd_true, ↓cnd_false]
        · simp only [chk_t, sure_t] at u65 u67 u70
          simp only [c11, g1, g2, g3, U64, u66, u66o, u65, u67, u68, u69, u70, u71, u72, u73, u74, u75, u76, u77, u78, u79, lbe, dl, di, db, Bool.and_self, rwA, rwB, Nat.reduceAdd, Nat.reduceMul, Nat.reduceLeDiff, Int.reduceEq, Int.reduceLT, Int.reduceLE, Int.reduceAdd, Int.reduceSub, Int.reduceMul, ↓reduceIte, Nat.reduceEqDiff, reduceCtorEq, ↓cnd_true, ↓cnd_false]
      · simp only [c11, g1, g2, g3, U64, rwA, rwB, Nat.reduceAdd, Nat.reduceMul, Nat.reduceLeDiff, Int.reduceEq, Int.reduceLT, Int.reduceLE, Int.reduceAdd, Int.reduceSub, Int.reduceMul, ↓reduceIte, Nat.reduceEqDiff, reduceCtorEq, ↓cnd_true, ↓cnd_false]
    · simp only [c11, g1, g2, U64, rwA, rwB, Nat.reduceAdd, Nat.reduceMul, Nat.reduceLeDiff, Int.reduceEq, Int.reduceLT, Int.reduceLE, Int.reduceAdd, Int.reduceSub, Int.reduceMul, ↓reduceIte, Nat.reduceEqDiff, reduceCtorEq, ↓cnd_true, ↓cnd_false]
  · simp only [c11, g1, U64, rwA, rwB, Nat.reduceAdd, Nat.reduceMul, Nat.reduceLeDiff, Int.reduceEq, Int.reduceLT, Int.reduceLE, Int.reduceAdd, Int.reduceSub, Int.reduceMul, ↓reduceIte, Nat.reduceEqDiff, reduceCtorEq, ↓cnd_true, ↓cnd_false]

theorem law11 (H : AHeap) (args : List AVal) (dats : List Dat) (h : AArgs Try.prog H [98, 9] args dats) : ∃ k H', acall A k 11 args H = some (.bool true, H') := by
  obtain ⟨v0, r, d0, ds, rfl, rfl, h0, h⟩ := args_cons h
  obtain ⟨v1, r, d1, ds, rfl, rfl, h1, h⟩ := args_cons h
  obtain rfl := args_nil h
  obtain ⟨k, t, b, s, n, p, rfl, hn, _, _⟩ := arg98 h0
  obtain ⟨x, rfl, _⟩ := arg_str Try.underlying9 h1
  obtain ⟨H', hr⟩ := run11 k t b s n p x hn H
  obtain ⟨k, hk⟩ := AC_iff.1 hr
  exact ⟨k, H', hk⟩

end Go.Proofs.Ytmicohgachjcgaa.Re
