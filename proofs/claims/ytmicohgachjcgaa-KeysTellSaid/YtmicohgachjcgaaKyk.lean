/- The keys' chapter: Open, and the law of what comes back. -/
import Derived.Test.YtmicohgachjcgaaKyj
set_option maxRecDepth 100000
set_option linter.unusedSimpArgs false
set_option linter.unusedVariables false
set_option maxHeartbeats 4000000
namespace Go.Proofs.Ytmicohgachjcgaa.Re
open Go Go.Proofs.Ytmicohgachjcgaa.Am ReFns Go.RowKit

theorem ncutA_len : ∀ r : List UInt8, (ncutA r).length ≤ r.length
  | [] => Nat.le_refl _
  | c :: r => by
    unfold ncutA; split
    · simp
    · simp only [List.length_cons]; have := ncutA_len r; omega
theorem ncutB_len : ∀ r : List UInt8, (ncutB r).length ≤ r.length
  | [] => Nat.le_refl _
  | c :: r => by
    unfold ncutB; split
    · simp
    · simp only [List.length_cons]; have := ncutB_len r; omega
theorem max0 (x : Int) : (if 0 > x then (0 : Int) else x) = max x 0 := by split <;> omega
theorem wrap_c64 (c : UInt8) : IntKind.i64.wrap (c.toNat : Int) = (c.toNat : Int) := by have := c.toNat_lt; rw [wrap_i64] <;> omega
theorem at0 (n : Nat) : aidx (n + 2) (.int .i64 0) = some 0 := by simp [aidx]; omega
theorem at1 (n : Nat) : aidx (n + 2) (.int .i64 1) = some 1 := by simp [aidx]; omega

theorem U68 (s : List UInt8) (hs : s.length ≤ 4611686018427387904) (H : AHeap) : AC A 68 [.str s] H = some (.tuple [.agg (Key.cells (opn s)), .int .i64 (bad (opnOk s))], H) := by
  refine one_val (x := ReFns.c68) rfl rfl rfl rfl rfl ?_ H
  unfold opn Key.cells
  match s, hs with
  | [], _ =>
    have e : opnOk [] = false := rfl
    have d : decide (((0 : Nat) : Int) < 2) = true := rfl
    rw [e]
    unfold bad
    simp only [c68, d, rwA, rwB, Nat.reduceAdd, Nat.reduceMul, Nat.reduceLeDiff, Int.reduceEq, Int.reduceLT, Int.reduceLE, Int.reduceAdd, Int.reduceSub, Int.reduceMul, ↓reduceIte, Nat.reduceEqDiff, reduceCtorEq, ↓cnd_true, ↓cnd_false]
    rfl
  | [c], _ =>
    have e : opnOk [c] = false := rfl
    have d : decide (((1 : Nat) : Int) < 2) = true := rfl
    rw [e]
    unfold bad
    simp only [c68, d, rwA, rwB, Nat.reduceAdd, Nat.reduceMul, Nat.reduceLeDiff, Int.reduceEq, Int.reduceLT, Int.reduceLE, Int.reduceAdd, Int.reduceSub, Int.reduceMul, ↓reduceIte, Nat.reduceEqDiff, reduceCtorEq, ↓cnd_true, ↓cnd_false]
    rfl
  | c :: d :: r, hs =>
    have hr : r.length ≤ 4611686018427387904 := by simp at hs; omega
    have d2 : decide (((c :: d :: r).length : Int) < 2) = false := decide_eq_false (by simp only [List.length_cons]; omega)
    have s2 := slc_lo (c :: d :: r) 2 (by omega) (by simp only [List.length_cons]; omega)
    have dr : (c :: d :: r).drop (2 : Int).toNat = r := rfl
    have tk : (c :: d :: r).take (c :: d :: r).length = c :: d :: r := List.take_length
    have u109 := U109 r hr
    have u110 := U110 c
    have i0 : aidx (c :: d :: r).length (.int .i64 0) = some 0 := at0 _
    have i1 : aidx (c :: d :: r).length (.int .i64 1) = some 1 := at1 _
    have g0 : (c :: d :: r)[0]? = some c := rfl
    have g1 : (c :: d :: r)[1]? = some d := rfl
    have wd := wrap_c64 d
    have u111 := U111 (kindOf c) (d.toNat : Int) (ncutA r) (ncutB r) (by have := ncutB_len r; omega)
    have hcand : cand (c :: d :: r) = ⟨kindOf c, d.toNat, ncutA r, rdName (kindOf c) (ncutB r), rdNr (kindOf c) (ncutB r), rdPart (kindOf c) (ncutB r)⟩ := rfl
    have u65 := U65 (kindOf c) (d.toNat : Int) (ncutA r) (rdName (kindOf c) (ncutB r)) (rdNr (kindOf c) (ncutB r)) (rdPart (kindOf c) (ncutB r)) (rdNr_lt _ _)
    rw [← hcand] at u65
    have hO : opnOk (c :: d :: r) = ((cand (c :: d :: r)).right && decide ((cand (c :: d :: r)).bytes = c :: d :: r)) := rfl
    have mk : (if 0 > Lib.indexByte [32, 84, 66, 86, 85, 80] c then (0 : Int) else Lib.indexByte [32, 84, 66, 86, 85, 80] c) = kindOf c := max0 _
    generalize Lib.indexByte [32, 84, 66, 86, 85, 80] c = IX at *
    generalize Key.right (cand (c :: d :: r)) = R at *
    generalize Key.bytes (cand (c :: d :: r)) = B at *
    cases R
    · rw [Bool.false_and] at hO
      rw [hO]
      simp only [chk_f, sure_f] at u65
      generalize c :: d :: r = S at *
      generalize kindOf c = KK at *
      generalize rdName KK (ncutB r) = NN at *
      generalize rdNr KK (ncutB r) = NR at *
      generalize rdPart KK (ncutB r) = PP at *
      unfold bad
      simp only [c68, d2, s2, dr, tk, u109, u110, i0, i1, g0, g1, wd, mk, u111, u65, rwA, rwB, Nat.reduceAdd, Nat.reduceMul, Nat.reduceLeDiff, Int.reduceEq, Int.reduceLT, Int.reduceLE, Int.reduceAdd, Int.reduceSub, Int.reduceMul, ↓reduceIte, Nat.reduceEqDiff, reduceCtorEq, ↓cnd_true, ↓cnd_false]
      rfl
    · simp only [chk_t, sure_t] at u65
      rw [Bool.true_and] at hO
      cases dB : decide (B = c :: d :: r) <;> rw [dB] at hO <;> rw [hO]
      · generalize c :: d :: r = S at *
        generalize kindOf c = KK at *
        generalize rdName KK (ncutB r) = NN at *
        generalize rdNr KK (ncutB r) = NR at *
        generalize rdPart KK (ncutB r) = PP at *
        unfold bad
        simp only [c68, d2, s2, dr, tk, u109, u110, i0, i1, g0, g1, wd, mk, u111, u65, lbe, dB, rwA, rwB, Nat.reduceAdd, Nat.reduceMul, Nat.reduceLeDiff, Int.reduceEq, Int.reduceLT, Int.reduceLE, Int.reduceAdd, Int.reduceSub, Int.reduceMul, ↓reduceIte, Nat.reduceEqDiff, reduceCtorEq, ↓cnd_true, ↓cnd_false]
        rfl
      · rw [if_pos rfl, hcand]
        generalize c :: d :: r = S at *
        generalize kindOf c = KK at *
        generalize rdName KK (ncutB r) = NN at *
        generalize rdNr KK (ncutB r) = NR at *
        generalize rdPart KK (ncutB r) = PP at *
        unfold bad
        simp only [c68, d2, s2, dr, tk, u109, u110, i0, i1, g0, g1, wd, mk, u111, u65, lbe, dB, rwA, rwB, Nat.reduceAdd, Nat.reduceMul, Nat.reduceLeDiff, Int.reduceEq, Int.reduceLT, Int.reduceLE, Int.reduceAdd, Int.reduceSub, Int.reduceMul, ↓reduceIte, Nat.reduceEqDiff, reduceCtorEq, ↓cnd_true, ↓cnd_false]

end Go.Proofs.Ytmicohgachjcgaa.Re
