/- The law of the getters. -/
import Derived.Test.YtmicohgachjcgaaRem
set_option maxRecDepth 100000
set_option linter.unusedSimpArgs false
set_option linter.unusedVariables false
set_option maxHeartbeats 4000000
namespace Go.Proofs.Ytmicohgachjcgaa.Re
open Go Go.Proofs.Ytmicohgachjcgaa.Am ReFns Go.RowKit

theorem run9 (s : List UInt8) (H : AHeap) : Ans (AC A 9 [.str s] H) (.bool true) := by
  rw [s_fn (A := A) (f := 9) (x := ReFns.c9) rfl rfl rfl]
  cases c1 : decide ((1000 : Int) < (s.length : Int))
  · have hs : s.length ≤ 1000 := by have := of_decide_eq_false c1; omega
    have dd : ∀ x : Int, decide (x = x) = true := fun x => by simp
    have dl : ∀ x : List UInt8, decide (x = x) = true := fun x => by simp
    have db : ∀ x : Bool, (x == x) = true := fun x => by simp
    have u61 := U61 s (by omega)
    obtain ⟨a1, ea1⟩ : ∃ x, keep (TFit s) (TA s) = x := ⟨_, rfl⟩
    obtain ⟨a2, ea2⟩ : ∃ x, keep (TFit s) (TB s) = x := ⟨_, rfl⟩
    obtain ⟨a3, ea3⟩ : ∃ x, keep (TFit s) (TC s) = x := ⟨_, rfl⟩
    obtain ⟨a4, ea4⟩ : ∃ x, keep (TFit s) (TD s) = x := ⟨_, rfl⟩
    obtain ⟨a5, ea5⟩ : ∃ x, bad (TFit s) = x := ⟨_, rfl⟩
    have u54 := U54' s
    have u55 := U55 s
    rw [ea1, ea2, ea3, ea4, ea5] at u54 u55
    obtain ⟨b1, eb1⟩ : ∃ x, keep (BFit s) (BK s) = x := ⟨_, rfl⟩
    obtain ⟨b2, eb2⟩ : ∃ x, keep (BFit s) (BA s) = x := ⟨_, rfl⟩
    obtain ⟨b3, eb3⟩ : ∃ x, keep (BFit s) (BB s) = x := ⟨_, rfl⟩
    obtain ⟨b4, eb4⟩ : ∃ x, keep (BFit s) (BC s) = x := ⟨_, rfl⟩
    obtain ⟨b5, eb5⟩ : ∃ x, keep (BFit s) (BD s) = x := ⟨_, rfl⟩
    obtain ⟨b6, eb6⟩ : ∃ x, keep (BFit s) (BN s : Int) = x := ⟨_, rfl⟩
    obtain ⟨b7, eb7⟩ : ∃ x, bad (BFit s) = x := ⟨_, rfl⟩
    have u56 := U56' s
    have u57 := U57 s
    rw [eb1, eb2, eb3, eb4, eb5, eb6, eb7] at u56 u57
    obtain ⟨v1, ev1⟩ : ∃ x, keep (VFit s) (VN s : Int) = x := ⟨_, rfl⟩
    obtain ⟨v2, ev2⟩ : ∃ x, keepb (VFit s) (VM s) = x := ⟨_, rfl⟩
    obtain ⟨v3, ev3⟩ : ∃ x, keep (VFit s) (VC s) = x := ⟨_, rfl⟩
    obtain ⟨v4, ev4⟩ : ∃ x, keep (VFit s) (VA s) = x := ⟨_, rfl⟩
    obtain ⟨v5, ev5⟩ : ∃ x, keep (VFit s) (VB s) = x := ⟨_, rfl⟩
    obtain ⟨v6, ev6⟩ : ∃ x, bad (VFit s) = x := ⟨_, rfl⟩
    have u58 := U58' s
    have u59 := U59 s
    rw [ev1, ev2, ev3, ev4, ev5, ev6] at u58 u59
    obtain ⟨k1, ek1⟩ : ∃ x, sure (keyok s) s = x := ⟨_, rfl⟩
    obtain ⟨k2, ek2⟩ : ∃ x, bad (keyok s) = x := ⟨_, rfl⟩
    have u60 := U60 s
    rw [ek1, ek2] at u60 u61
    obtain ⟨p1, ep1⟩ : ∃ x, keep (PFit s) (PC s) = x := ⟨_, rfl⟩
    obtain ⟨p2, ep2⟩ : ∃ x, keep (PFit s) (PA s) = x := ⟨_, rfl⟩
    obtain ⟨p3, ep3⟩ : ∃ x, keep (PFit s) (PB s) = x := ⟨_, rfl⟩
    obtain ⟨p4, ep4⟩ : ∃ x, bad (PFit s) = x := ⟨_, rfl⟩
    have u62 := U62' s
    have u63 := U63 s
    rw [ep1, ep2, ep3, ep4] at u62 u63
    clear ea1 ea2 ea3 ea4 ea5 eb1 eb2 eb3 eb4 eb5 eb6 eb7 ev1 ev2 ev3 ev4 ev5 ev6 ek1 ek2 ep1 ep2 ep3 ep4
    simp only [c9, c1, U43, u54, u55, u56, u57, u58, u59, u60, u61, u62, u63, dd, dl, db, Bool.and_self, rwA, rwB, Nat.reduceAdd, Nat.reduceMul, Nat.reduceLeDiff, Int.reduceEq, Int.reduceLT, Int.reduceLE, Int.reduceAdd, Int.reduceSub, Int.reduceMul, ↓reduceIte, Nat.reduceEqDiff, reduceCtorEq, ↓cnd_true, ↓cnd_false]
  · simp only [c9, c1, U43, rwA, rwB, Nat.reduceAdd, Nat.reduceMul, Nat.reduceLeDiff, Int.reduceEq, Int.reduceLT, Int.reduceLE, Int.reduceAdd, Int.reduceSub, Int.reduceMul, ↓reduceIte, Nat.reduceEqDiff, reduceCtorEq, ↓cnd_true, ↓cnd_false]

theorem law9 (H : AHeap) (args : List AVal) (dats : List Dat) (h : AArgs Try.prog H [9] args dats) : ∃ k H', acall A k 9 args H = some (.bool true, H') := by
  obtain ⟨v0, r, d0, ds, rfl, rfl, h0, h⟩ := args_cons h
  obtain rfl := args_nil h
  obtain ⟨s, rfl, _⟩ := arg_str Try.underlying9 h0
  obtain ⟨H', hr⟩ := run9 s H
  obtain ⟨k, hk⟩ := AC_iff.1 hr
  exact ⟨k, H', hk⟩

end Go.Proofs.Ytmicohgachjcgaa.Re
