/- The keys' chapter: the reference's Open walked. -/
import Derived.Test.YtmicohgachjcgaaKyo
set_option maxRecDepth 100000
set_option linter.unusedSimpArgs false
set_option linter.unusedVariables false
set_option maxHeartbeats 4000000
namespace Go.Proofs.Ytmicohgachjcgaa.Re
open Go Go.Proofs.Ytmicohgachjcgaa.Am ReFns Go.RowKit

theorem rU33 (x : List UInt8) (e : Int) (w : Nat) (hw : 1 ≤ w ∧ w ≤ 8) (H : AHeap) : AC A 33 [.agg [.str x, .int .i64 e], .int .i64 (w : Int)] H = some (.tuple [.agg [.str (st (x, e) w).1, .int .i64 (st (x, e) w).2], .int .u64 (va (x, e) w : Int)], H) := by
  have u := U33 x e (w : Int) H
  rw [show wid (w : Int) = (w : Int) by unfold wid; rw [if_pos (by omega)]] at u
  exact u

theorem U69 (s : List UInt8) (hs : s.length ≤ 1000) (H : AHeap) : AC A 69 [.str s] H = some (.tuple [.agg (Key.cells (opn s)), .int .i64 (bad (opnOk s))], H) := by
  refine one_val (x := ReFns.c69) rfl rfl rfl rfl rfl ?_ H
  obtain ⟨o1, o2⟩ := ropn s
  rw [o1, o2]
  clear o1 o2
  unfold Key.cells
  match s, hs with
  | [], _ =>
    have e : ((rcand []).right && decide ((rcand []).bytes = [])) = false := rfl
    have d : decide (((0 : Nat) : Int) < 2) = true := rfl
    rw [e]
    unfold bad
    simp only [c69, d, rwA, rwB, Nat.reduceAdd, Nat.reduceMul, Nat.reduceLeDiff, Int.reduceEq, Int.reduceLT, Int.reduceLE, Int.reduceAdd, Int.reduceSub, Int.reduceMul, ↓reduceIte, Nat.reduceEqDiff, reduceCtorEq, ↓cnd_true, ↓cnd_false]
    rfl
  | [c], _ =>
    have e : ((rcand [c]).right && decide ((rcand [c]).bytes = [c])) = false := rfl
    have d : decide (((1 : Nat) : Int) < 2) = true := rfl
    rw [e]
    unfold bad
    simp only [c69, d, rwA, rwB, Nat.reduceAdd, Nat.reduceMul, Nat.reduceLeDiff, Int.reduceEq, Int.reduceLT, Int.reduceLE, Int.reduceAdd, Int.reduceSub, Int.reduceMul, ↓reduceIte, Nat.reduceEqDiff, reduceCtorEq, ↓cnd_true, ↓cnd_false]
    rfl
  | c :: d :: r, hs =>
    have hr : r.length ≤ 1000 := by simp at hs; omega
    have d2 : decide (((c :: d :: r).length : Int) < 2) = false := decide_eq_false (by simp only [List.length_cons]; omega)
    have s2 := slc_lo (c :: d :: r) 2 (by omega) (by simp only [List.length_cons]; omega)
    have dr : (c :: d :: r).drop (2 : Int).toNat = r := rfl
    have tk : (c :: d :: r).take (c :: d :: r).length = c :: d :: r := List.take_length
    have i0 : aidx (c :: d :: r).length (.int .i64 0) = some 0 := at0 _
    have i1 : aidx (c :: d :: r).length (.int .i64 1) = some 1 := at1 _
    have g0 : (c :: d :: r)[0]? = some c := rfl
    have g1 : (c :: d :: r)[1]? = some d := rfl
    have wd := wrap_c64 d
    have la := ncutA_len r
    have lb := ncutB_len r
    have u112 := U112 r (by omega)
    have u112b := U112 (ncutB r) (by omega)
    have lna := ncutA_len (ncutB r)
    have w8 := fun (x : List UInt8) (e : Int) => rU33 x e 8 (by omega)
    have w1 := fun (x : List UInt8) (e : Int) => rU33 x e 1 (by omega)
    have z8 : ((8 : Nat) : Int) = 8 := rfl
    have z1' : ((1 : Nat) : Int) = 1 := rfl
    simp only [z8] at w8
    simp only [z1'] at w1
    have no := noff (va (ncutB (ncutB r), 0) 8) (va_lt _ _ (by omega))
    have l3 : 18446744073709551615 - va (ncutB (ncutB r), 0) 8 < 18446744073709551616 := by omega
    have l4 : va (ncutB r, 0) 8 < 18446744073709551616 := va_lt _ _ (by omega)
    have hnil : ([] : List UInt8).length ≤ 4611686018427387904 := by simp
    rcases letters c with ⟨hc, hk⟩ | ⟨hc, hk⟩ | ⟨hc, hk⟩ | ⟨hc, hk⟩ | ⟨hc, hk⟩ | ⟨hc, hk⟩
    · have e1 : decide (((84 : UInt8).toNat : Int) = (c.toNat : Int)) = true := by rw [hc]; decide
      have e2 : decide (((66 : UInt8).toNat : Int) = (c.toNat : Int)) = false := by rw [hc]; decide
      have e3 : decide (((86 : UInt8).toNat : Int) = (c.toNat : Int)) = false := by rw [hc]; decide
      have e4 : decide (((85 : UInt8).toNat : Int) = (c.toNat : Int)) = false := by rw [hc]; decide
      have e5 : decide (((80 : UInt8).toNat : Int) = (c.toNat : Int)) = false := by rw [hc]; decide
      have hcand : rcand (c :: d :: r) = ⟨1, d.toNat, ncutA r, [], 0, 0⟩ := by simp only [rcand, hk]; rfl
      have u67 := U67 1 (d.toNat : Int) (ncutA r) [] 0 0 (by simp) (by omega)
      rw [← hcand] at u67
      rw [show ((0 : Nat) : Int) = 0 from rfl] at u67
      generalize hR : Key.right (rcand (c :: d :: r)) = R at *
      generalize hB : Key.bytes (rcand (c :: d :: r)) = B at *
      clear hR hB hc hk
      cases R
      · rw [Bool.false_and, if_neg (by simp)]
        simp only [chk_f, sure_f] at u67
        generalize c :: d :: r = S at *
        unfold bad
        simp only [c69, d2, s2, dr, tk, i0, i1, g0, g1, wd, s_loop, lx0, lx1, lx2, lx3, lx4, lg0, lg1, lg2, lg3, lg4, ll5, e1, e2, e3, e4, e5, wl1, wl2, wl3, wl4, wl5, u112, u112b, w8, w1, no, u67, rwA, rwB, Nat.reduceAdd, Nat.reduceMul, Nat.reduceLeDiff, Int.reduceEq, Int.reduceLT, Int.reduceLE, Int.reduceAdd, Int.reduceSub, Int.reduceMul, ↓reduceIte, Nat.reduceEqDiff, reduceCtorEq, ↓cnd_true, ↓cnd_false]
        try rfl
      · simp only [chk_t, sure_t] at u67
        rw [Bool.true_and]
        cases dB : decide (B = c :: d :: r)
        · rw [if_neg (by simp)]
          generalize c :: d :: r = S at *
          unfold bad
          simp only [c69, d2, s2, dr, tk, i0, i1, g0, g1, wd, s_loop, lx0, lx1, lx2, lx3, lx4, lg0, lg1, lg2, lg3, lg4, ll5, e1, e2, e3, e4, e5, wl1, wl2, wl3, wl4, wl5, u112, u112b, w8, w1, no, u67, lbe, dB, rwA, rwB, Nat.reduceAdd, Nat.reduceMul, Nat.reduceLeDiff, Int.reduceEq, Int.reduceLT, Int.reduceLE, Int.reduceAdd, Int.reduceSub, Int.reduceMul, ↓reduceIte, Nat.reduceEqDiff, reduceCtorEq, ↓cnd_true, ↓cnd_false]
          try rfl
        · rw [if_pos rfl, hcand]
          generalize c :: d :: r = S at *
          unfold bad
          simp only [c69, d2, s2, dr, tk, i0, i1, g0, g1, wd, s_loop, lx0, lx1, lx2, lx3, lx4, lg0, lg1, lg2, lg3, lg4, ll5, e1, e2, e3, e4, e5, wl1, wl2, wl3, wl4, wl5, u112, u112b, w8, w1, no, u67, lbe, dB, rwA, rwB, Nat.reduceAdd, Nat.reduceMul, Nat.reduceLeDiff, Int.reduceEq, Int.reduceLT, Int.reduceLE, Int.reduceAdd, Int.reduceSub, Int.reduceMul, ↓reduceIte, Nat.reduceEqDiff, reduceCtorEq, ↓cnd_true, ↓cnd_false]
          try rfl
    · have e1 : decide (((84 : UInt8).toNat : Int) = (c.toNat : Int)) = false := by rw [hc]; decide
      have e2 : decide (((66 : UInt8).toNat : Int) = (c.toNat : Int)) = true := by rw [hc]; decide
      have e3 : decide (((86 : UInt8).toNat : Int) = (c.toNat : Int)) = false := by rw [hc]; decide
      have e4 : decide (((85 : UInt8).toNat : Int) = (c.toNat : Int)) = false := by rw [hc]; decide
      have e5 : decide (((80 : UInt8).toNat : Int) = (c.toNat : Int)) = false := by rw [hc]; decide
      have hcand : rcand (c :: d :: r) = ⟨2, d.toNat, ncutA r, [], 0, 0⟩ := by simp only [rcand, hk]; rfl
      have u67 := U67 2 (d.toNat : Int) (ncutA r) [] 0 0 (by simp) (by omega)
      rw [← hcand] at u67
      rw [show ((0 : Nat) : Int) = 0 from rfl] at u67
      generalize hR : Key.right (rcand (c :: d :: r)) = R at *
      generalize hB : Key.bytes (rcand (c :: d :: r)) = B at *
      clear hR hB hc hk
      cases R
      · rw [Bool.false_and, if_neg (by simp)]
        simp only [chk_f, sure_f] at u67
        generalize c :: d :: r = S at *
        unfold bad
        simp only [c69, d2, s2, dr, tk, i0, i1, g0, g1, wd, s_loop, lx0, lx1, lx2, lx3, lx4, lg0, lg1, lg2, lg3, lg4, ll5, e1, e2, e3, e4, e5, wl1, wl2, wl3, wl4, wl5, u112, u112b, w8, w1, no, u67, rwA, rwB, Nat.reduceAdd, Nat.reduceMul, Nat.reduceLeDiff, Int.reduceEq, Int.reduceLT, Int.reduceLE, Int.reduceAdd, Int.reduceSub, Int.reduceMul, ↓reduceIte, Nat.reduceEqDiff, reduceCtorEq, ↓cnd_true, ↓cnd_false]
        try rfl
      · simp only [chk_t, sure_t] at u67
        rw [Bool.true_and]
        cases dB : decide (B = c :: d :: r)
        · rw [if_neg (by simp)]
          generalize c :: d :: r = S at *
          unfold bad
          simp only [c69, d2, s2, dr, tk, i0, i1, g0, g1, wd, s_loop, lx0, lx1, lx2, lx3, lx4, lg0, lg1, lg2, lg3, lg4, ll5, e1, e2, e3, e4, e5, wl1, wl2, wl3, wl4, wl5, u112, u112b, w8, w1, no, u67, lbe, dB, rwA, rwB, Nat.reduceAdd, Nat.reduceMul, Nat.reduceLeDiff, Int.reduceEq, Int.reduceLT, Int.reduceLE, Int.reduceAdd, Int.reduceSub, Int.reduceMul, ↓reduceIte, Nat.reduceEqDiff, reduceCtorEq, ↓cnd_true, ↓cnd_false]
          try rfl
        · rw [if_pos rfl, hcand]
          generalize c :: d :: r = S at *
          unfold bad
          simp only [c69, d2, s2, dr, tk, i0, i1, g0, g1, wd, s_loop, lx0, lx1, lx2, lx3, lx4, lg0, lg1, lg2, lg3, lg4, ll5, e1, e2, e3, e4, e5, wl1, wl2, wl3, wl4, wl5, u112, u112b, w8, w1, no, u67, lbe, dB, rwA, rwB, Nat.reduceAdd, Nat.reduceMul, Nat.reduceLeDiff, Int.reduceEq, Int.reduceLT, Int.reduceLE, Int.reduceAdd, Int.reduceSub, Int.reduceMul, ↓reduceIte, Nat.reduceEqDiff, reduceCtorEq, ↓cnd_true, ↓cnd_false]
          try rfl
    · have e1 : decide (((84 : UInt8).toNat : Int) = (c.toNat : Int)) = false := by rw [hc]; decide
      have e2 : decide (((66 : UInt8).toNat : Int) = (c.toNat : Int)) = false := by rw [hc]; decide
      have e3 : decide (((86 : UInt8).toNat : Int) = (c.toNat : Int)) = true := by rw [hc]; decide
      have e4 : decide (((85 : UInt8).toNat : Int) = (c.toNat : Int)) = false := by rw [hc]; decide
      have e5 : decide (((80 : UInt8).toNat : Int) = (c.toNat : Int)) = false := by rw [hc]; decide
      have hcand : rcand (c :: d :: r) = ⟨3, d.toNat, ncutA r, (ncutA (ncutB r)), (18446744073709551615 - va (ncutB (ncutB r), 0) 8), 0⟩ := by simp only [rcand, hk]; rfl
      have u67 := U67 3 (d.toNat : Int) (ncutA r) (ncutA (ncutB r)) (18446744073709551615 - va (ncutB (ncutB r), 0) 8) 0 (by omega) (by omega)
      rw [← hcand] at u67
      generalize hR : Key.right (rcand (c :: d :: r)) = R at *
      generalize hB : Key.bytes (rcand (c :: d :: r)) = B at *
      clear hR hB hc hk
      cases R
      · rw [Bool.false_and, if_neg (by simp)]
        simp only [chk_f, sure_f] at u67
        generalize c :: d :: r = S at *
        unfold bad
        simp only [c69, d2, s2, dr, tk, i0, i1, g0, g1, wd, s_loop, lx0, lx1, lx2, lx3, lx4, lg0, lg1, lg2, lg3, lg4, ll5, e1, e2, e3, e4, e5, wl1, wl2, wl3, wl4, wl5, u112, u112b, w8, w1, no, u67, rwA, rwB, Nat.reduceAdd, Nat.reduceMul, Nat.reduceLeDiff, Int.reduceEq, Int.reduceLT, Int.reduceLE, Int.reduceAdd, Int.reduceSub, Int.reduceMul, ↓reduceIte, Nat.reduceEqDiff, reduceCtorEq, ↓cnd_true, ↓cnd_false]
        try rfl
      · simp only [chk_t, sure_t] at u67
        rw [Bool.true_and]
        cases dB : decide (B = c :: d :: r)
        · rw [if_neg (by simp)]
          generalize c :: d :: r = S at *
          unfold bad
          simp only [c69, d2, s2, dr, tk, i0, i1, g0, g1, wd, s_loop, lx0, lx1, lx2, lx3, lx4, lg0, lg1, lg2, lg3, lg4, ll5, e1, e2, e3, e4, e5, wl1, wl2, wl3, wl4, wl5, u112, u112b, w8, w1, no, u67, lbe, dB, rwA, rwB, Nat.reduceAdd, Nat.reduceMul, Nat.reduceLeDiff, Int.reduceEq, Int.reduceLT, Int.reduceLE, Int.reduceAdd, Int.reduceSub, Int.reduceMul, ↓reduceIte, Nat.reduceEqDiff, reduceCtorEq, ↓cnd_true, ↓cnd_false]
          try rfl
        · rw [if_pos rfl, hcand]
          generalize c :: d :: r = S at *
          unfold bad
          simp only [c69, d2, s2, dr, tk, i0, i1, g0, g1, wd, s_loop, lx0, lx1, lx2, lx3, lx4, lg0, lg1, lg2, lg3, lg4, ll5, e1, e2, e3, e4, e5, wl1, wl2, wl3, wl4, wl5, u112, u112b, w8, w1, no, u67, lbe, dB, rwA, rwB, Nat.reduceAdd, Nat.reduceMul, Nat.reduceLeDiff, Int.reduceEq, Int.reduceLT, Int.reduceLE, Int.reduceAdd, Int.reduceSub, Int.reduceMul, ↓reduceIte, Nat.reduceEqDiff, reduceCtorEq, ↓cnd_true, ↓cnd_false]
          try rfl
    · have e1 : decide (((84 : UInt8).toNat : Int) = (c.toNat : Int)) = false := by rw [hc]; decide
      have e2 : decide (((66 : UInt8).toNat : Int) = (c.toNat : Int)) = false := by rw [hc]; decide
      have e3 : decide (((86 : UInt8).toNat : Int) = (c.toNat : Int)) = false := by rw [hc]; decide
      have e4 : decide (((85 : UInt8).toNat : Int) = (c.toNat : Int)) = true := by rw [hc]; decide
      have e5 : decide (((80 : UInt8).toNat : Int) = (c.toNat : Int)) = false := by rw [hc]; decide
      have hcand : rcand (c :: d :: r) = ⟨4, d.toNat, ncutA r, [], (va (ncutB r, 0) 8), 0⟩ := by simp only [rcand, hk]; rfl
      have u67 := U67 4 (d.toNat : Int) (ncutA r) [] (va (ncutB r, 0) 8) 0 (by simp) (by omega)
      rw [← hcand] at u67
      generalize hR : Key.right (rcand (c :: d :: r)) = R at *
      generalize hB : Key.bytes (rcand (c :: d :: r)) = B at *
      clear hR hB hc hk
      cases R
      · rw [Bool.false_and, if_neg (by simp)]
        simp only [chk_f, sure_f] at u67
        generalize c :: d :: r = S at *
        unfold bad
        simp only [c69, d2, s2, dr, tk, i0, i1, g0, g1, wd, s_loop, lx0, lx1, lx2, lx3, lx4, lg0, lg1, lg2, lg3, lg4, ll5, e1, e2, e3, e4, e5, wl1, wl2, wl3, wl4, wl5, u112, u112b, w8, w1, no, u67, rwA, rwB, Nat.reduceAdd, Nat.reduceMul, Nat.reduceLeDiff, Int.reduceEq, Int.reduceLT, Int.reduceLE, Int.reduceAdd, Int.reduceSub, Int.reduceMul, ↓reduceIte, Nat.reduceEqDiff, reduceCtorEq, ↓cnd_true, ↓cnd_false]
        try rfl
      · simp only [chk_t, sure_t] at u67
        rw [Bool.true_and]
        cases dB : decide (B = c :: d :: r)
        · rw [if_neg (by simp)]
          generalize c :: d :: r = S at *
          unfold bad
          simp only [c69, d2, s2, dr, tk, i0, i1, g0, g1, wd, s_loop, lx0, lx1, lx2, lx3, lx4, lg0, lg1, lg2, lg3, lg4, ll5, e1, e2, e3, e4, e5, wl1, wl2, wl3, wl4, wl5, u112, u112b, w8, w1, no, u67, lbe, dB, rwA, rwB, Nat.reduceAdd, Nat.reduceMul, Nat.reduceLeDiff, Int.reduceEq, Int.reduceLT, Int.reduceLE, Int.reduceAdd, Int.reduceSub, Int.reduceMul, ↓reduceIte, Nat.reduceEqDiff, reduceCtorEq, ↓cnd_true, ↓cnd_false]
          try rfl
        · rw [if_pos rfl, hcand]
          generalize c :: d :: r = S at *
          unfold bad
          simp only [c69, d2, s2, dr, tk, i0, i1, g0, g1, wd, s_loop, lx0, lx1, lx2, lx3, lx4, lg0, lg1, lg2, lg3, lg4, ll5, e1, e2, e3, e4, e5, wl1, wl2, wl3, wl4, wl5, u112, u112b, w8, w1, no, u67, lbe, dB, rwA, rwB, Nat.reduceAdd, Nat.reduceMul, Nat.reduceLeDiff, Int.reduceEq, Int.reduceLT, Int.reduceLE, Int.reduceAdd, Int.reduceSub, Int.reduceMul, ↓reduceIte, Nat.reduceEqDiff, reduceCtorEq, ↓cnd_true, ↓cnd_false]
          try rfl
    · have e1 : decide (((84 : UInt8).toNat : Int) = (c.toNat : Int)) = false := by rw [hc]; decide
      have e2 : decide (((66 : UInt8).toNat : Int) = (c.toNat : Int)) = false := by rw [hc]; decide
      have e3 : decide (((86 : UInt8).toNat : Int) = (c.toNat : Int)) = false := by rw [hc]; decide
      have e4 : decide (((85 : UInt8).toNat : Int) = (c.toNat : Int)) = false := by rw [hc]; decide
      have e5 : decide (((80 : UInt8).toNat : Int) = (c.toNat : Int)) = true := by rw [hc]; decide
      have hcand : rcand (c :: d :: r) = ⟨5, d.toNat, ncutA r, [], (va (ncutB r, 0) 8), (IntKind.i64.wrap (va (st (ncutB r, 0) 8) 1 : Int))⟩ := by simp only [rcand, hk]; rfl
      have u67 := U67 5 (d.toNat : Int) (ncutA r) [] (va (ncutB r, 0) 8) (IntKind.i64.wrap (va (st (ncutB r, 0) 8) 1 : Int)) (by simp) (by omega)
      rw [← hcand] at u67
      generalize hR : Key.right (rcand (c :: d :: r)) = R at *
      generalize hB : Key.bytes (rcand (c :: d :: r)) = B at *
      clear hR hB hc hk
      cases R
      · rw [Bool.false_and, if_neg (by simp)]
        simp only [chk_f, sure_f] at u67
        generalize c :: d :: r = S at *
        unfold bad
        simp only [c69, d2, s2, dr, tk, i0, i1, g0, g1, wd, s_loop, lx0, lx1, lx2, lx3, lx4, lg0, lg1, lg2, lg3, lg4, ll5, e1, e2, e3, e4, e5, wl1, wl2, wl3, wl4, wl5, u112, u112b, w8, w1, no, u67, rwA, rwB, Nat.reduceAdd, Nat.reduceMul, Nat.reduceLeDiff, Int.reduceEq, Int.reduceLT, Int.reduceLE, Int.reduceAdd, Int.reduceSub, Int.reduceMul, ↓reduceIte, Nat.reduceEqDiff, reduceCtorEq, ↓cnd_true, ↓cnd_false]
        try rfl
      · simp only [chk_t, sure_t] at u67
        rw [Bool.true_and]
        cases dB : decide (B = c :: d :: r)
        · rw [if_neg (by simp)]
          generalize c :: d :: r = S at *
          unfold bad
          simp only [c69, d2, s2, dr, tk, i0, i1, g0, g1, wd, s_loop, lx0, lx1, lx2, lx3, lx4, lg0, lg1, lg2, lg3, lg4, ll5, e1, e2, e3, e4, e5, wl1, wl2, wl3, wl4, wl5, u112, u112b, w8, w1, no, u67, lbe, dB, rwA, rwB, Nat.reduceAdd, Nat.reduceMul, Nat.reduceLeDiff, Int.reduceEq, Int.reduceLT, Int.reduceLE, Int.reduceAdd, Int.reduceSub, Int.reduceMul, ↓reduceIte, Nat.reduceEqDiff, reduceCtorEq, ↓cnd_true, ↓cnd_false]
          try rfl
        · rw [if_pos rfl, hcand]
          generalize c :: d :: r = S at *
          unfold bad
          simp only [c69, d2, s2, dr, tk, i0, i1, g0, g1, wd, s_loop, lx0, lx1, lx2, lx3, lx4, lg0, lg1, lg2, lg3, lg4, ll5, e1, e2, e3, e4, e5, wl1, wl2, wl3, wl4, wl5, u112, u112b, w8, w1, no, u67, lbe, dB, rwA, rwB, Nat.reduceAdd, Nat.reduceMul, Nat.reduceLeDiff, Int.reduceEq, Int.reduceLT, Int.reduceLE, Int.reduceAdd, Int.reduceSub, Int.reduceMul, ↓reduceIte, Nat.reduceEqDiff, reduceCtorEq, ↓cnd_true, ↓cnd_false]
          try rfl
    · have e1 : decide (((84 : UInt8).toNat : Int) = (c.toNat : Int)) = false := by rw [deq]; exact decide_eq_false hc.1
      have e2 : decide (((66 : UInt8).toNat : Int) = (c.toNat : Int)) = false := by rw [deq]; exact decide_eq_false hc.2.1
      have e3 : decide (((86 : UInt8).toNat : Int) = (c.toNat : Int)) = false := by rw [deq]; exact decide_eq_false hc.2.2.1
      have e4 : decide (((85 : UInt8).toNat : Int) = (c.toNat : Int)) = false := by rw [deq]; exact decide_eq_false hc.2.2.2.1
      have e5 : decide (((80 : UInt8).toNat : Int) = (c.toNat : Int)) = false := by rw [deq]; exact decide_eq_false hc.2.2.2.2
      have hcand : rcand (c :: d :: r) = ⟨0, d.toNat, ncutA r, [], 0, 0⟩ := by simp only [rcand, hk]; rfl
      have u67 := U67 0 (d.toNat : Int) (ncutA r) [] 0 0 (by simp) (by omega)
      rw [← hcand] at u67
      rw [show ((0 : Nat) : Int) = 0 from rfl] at u67
      generalize hR : Key.right (rcand (c :: d :: r)) = R at *
      generalize hB : Key.bytes (rcand (c :: d :: r)) = B at *
      clear hR hB hc hk
      cases R
      · rw [Bool.false_and, if_neg (by simp)]
        simp only [chk_f, sure_f] at u67
        generalize c :: d :: r = S at *
        unfold bad
        simp only [c69, d2, s2, dr, tk, i0, i1, g0, g1, wd, s_loop, lx0, lx1, lx2, lx3, lx4, lg0, lg1, lg2, lg3, lg4, ll5, e1, e2, e3, e4, e5, wl1, wl2, wl3, wl4, wl5, u112, u112b, w8, w1, no, u67, rwA, rwB, Nat.reduceAdd, Nat.reduceMul, Nat.reduceLeDiff, Int.reduceEq, Int.reduceLT, Int.reduceLE, Int.reduceAdd, Int.reduceSub, Int.reduceMul, ↓reduceIte, Nat.reduceEqDiff, reduceCtorEq, ↓cnd_true, ↓cnd_false]
        try rfl
      · simp only [chk_t, sure_t] at u67
        rw [Bool.true_and]
        cases dB : decide (B = c :: d :: r)
        · rw [if_neg (by simp)]
          generalize c :: d :: r = S at *
          unfold bad
          simp only [c69, d2, s2, dr, tk, i0, i1, g0, g1, wd, s_loop, lx0, lx1, lx2, lx3, lx4, lg0, lg1, lg2, lg3, lg4, ll5, e1, e2, e3, e4, e5, wl1, wl2, wl3, wl4, wl5, u112, u112b, w8, w1, no, u67, lbe, dB, rwA, rwB, Nat.reduceAdd, Nat.reduceMul, Nat.reduceLeDiff, Int.reduceEq, Int.reduceLT, Int.reduceLE, Int.reduceAdd, Int.reduceSub, Int.reduceMul, ↓reduceIte, Nat.reduceEqDiff, reduceCtorEq, ↓cnd_true, ↓cnd_false]
          try rfl
        · rw [if_pos rfl, hcand]
          generalize c :: d :: r = S at *
          unfold bad
          simp only [c69, d2, s2, dr, tk, i0, i1, g0, g1, wd, s_loop, lx0, lx1, lx2, lx3, lx4, lg0, lg1, lg2, lg3, lg4, ll5, e1, e2, e3, e4, e5, wl1, wl2, wl3, wl4, wl5, u112, u112b, w8, w1, no, u67, lbe, dB, rwA, rwB, Nat.reduceAdd, Nat.reduceMul, Nat.reduceLeDiff, Int.reduceEq, Int.reduceLT, Int.reduceLE, Int.reduceAdd, Int.reduceSub, Int.reduceMul, ↓reduceIte, Nat.reduceEqDiff, reduceCtorEq, ↓cnd_true, ↓cnd_false]
          try rfl

end Go.Proofs.Ytmicohgachjcgaa.Re
