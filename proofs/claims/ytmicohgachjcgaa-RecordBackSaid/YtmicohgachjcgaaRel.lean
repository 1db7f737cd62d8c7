/- The reference's getters: words at a place. -/
import Derived.Test.YtmicohgachjcgaaRek
set_option maxRecDepth 100000
set_option linter.unusedSimpArgs false
set_option linter.unusedVariables false
set_option maxHeartbeats 4000000
namespace Go.Proofs.Ytmicohgachjcgaa.Re
open Go Go.Proofs.Ytmicohgachjcgaa.Am ReFns Go.RowKit

/-- The number that stands at a place. -/
def wd (s : List UInt8) (k w : Nat) : Nat := if s.length < k + w then 0 else be ((s.drop k).take w)

theorem U103 (s : List UInt8) (k w : Nat) (hk : k ≤ 1000) (hw : 1 ≤ w ∧ w ≤ 8) (H : AHeap) : AC A 103 [.str s, .int .i64 (k : Int), .int .i64 (w : Int)] H = some (.int .u64 (wd s k w : Int), H) := by
  refine one_val (x := ReFns.c103) rfl rfl rfl rfl rfl ?_ H
  have w1 : IntKind.i64.wrap ((k : Int) + (w : Int)) = ((k + w : Nat) : Int) := by rw [wrap_i64]; omega
  unfold wd
  by_cases h : s.length < k + w
  · have c1 : decide ((s.length : Int) < ((k + w : Nat) : Int)) = true := decide_eq_true (by omega)
    rw [if_pos h]
    simp only [c103, w1, c1, rwA, rwB, Nat.reduceAdd, Nat.reduceMul, Nat.reduceLeDiff, Int.reduceEq, Int.reduceLT, Int.reduceLE, Int.reduceAdd, Int.reduceSub, Int.reduceMul, ↓reduceIte, Nat.reduceEqDiff, reduceCtorEq, ↓cnd_true, ↓cnd_false]
    rfl
  · have c1 : decide ((s.length : Int) < ((k + w : Nat) : Int)) = false := decide_eq_false (by omega)
    rw [if_neg h]
    have u33 := U33 (s.drop k) 0 (w : Int)
    rw [show wid (w : Int) = (w : Int) by unfold wid; rw [if_pos (by omega)]] at u33
    have er : raw (s.drop k) 0 (w : Int) = ((s.drop k).drop w, 0, (s.drop k).take w) := by
      unfold raw
      rw [if_neg (by simp), if_neg (by omega), if_neg (by rw [List.length_drop]; omega), Int.toNat_natCast]
    rw [er] at u33
    simp only [c103, w1, c1, slc_lo s (k : Int) (by omega) (by omega), Int.toNat_natCast, List.take_length, u33, rwA, rwB, Nat.reduceAdd, Nat.reduceMul, Nat.reduceLeDiff, Int.reduceEq, Int.reduceLT, Int.reduceLE, Int.reduceAdd, Int.reduceSub, Int.reduceMul, ↓reduceIte, Nat.reduceEqDiff, reduceCtorEq, ↓cnd_true, ↓cnd_false]

theorem U101 (s : List UInt8) (k : Nat) (hk : k ≤ 900) (z : Int) (H : AHeap) : AC A 101 [.str s, .int .i64 (k : Int), .int .i64 z] H = some (.agg [.int .i64 (i8 (wd s k 8) z), .int .i64 (i8 (wd s (k + 8) 8) z)], H) := by
  refine one_val (x := ReFns.c101) rfl rfl rfl rfl rfl ?_ H
  have w1 : IntKind.i64.wrap ((k : Int) + 8) = ((k + 8 : Nat) : Int) := by rw [wrap_i64]; omega
  have u1 := U103 s k 8 (by omega) (by omega)
  have u2 := U103 s (k + 8) 8 (by omega) (by omega)
  have e8 : ((8 : Nat) : Int) = 8 := rfl
  rw [e8] at u1 u2
  simp only [c101, w1, u1, u2, rwA, rwB, Nat.reduceAdd, Nat.reduceMul, Nat.reduceLeDiff, Int.reduceEq, Int.reduceLT, Int.reduceLE, Int.reduceAdd, Int.reduceSub, Int.reduceMul, ↓reduceIte, Nat.reduceEqDiff, reduceCtorEq, ↓cnd_true, ↓cnd_false]
  rfl

/-- A tenant's record, word by word. -/
def fit' (ok : Bool) (v s : List UInt8) : Bool := ok && decide (v = s)
def TA (s : List UInt8) : Int := i8 (wd s 0 8) 1
def TB (s : List UInt8) : Int := i8 (wd s 8 8) 1
def TC (s : List UInt8) : Int := i8 (wd s 16 8) 0
def TD (s : List UInt8) : Int := i8 (wd s 24 8) 0
def TFit (s : List UInt8) : Bool := fit' (rightc (TA s) (TB s) (TC s) (TD s)) (pc (TA s) (TB s) (TC s) (TD s)) s

theorem U55 (s : List UInt8) (H : AHeap) : AC A 55 [.str s] H = some (.tuple [.agg [.int .i64 (keep (TFit s) (TA s)), .int .i64 (keep (TFit s) (TB s)), .int .i64 (keep (TFit s) (TC s)), .int .i64 (keep (TFit s) (TD s))], .int .i64 (bad (TFit s))], H) := by
  refine one_val (x := ReFns.c55) rfl rfl rfl rfl rfl ?_ H
  have u1 := U101 s 0 (by omega) 1
  have u2 := U101 s 16 (by omega) 0
  have e0 : ((0 : Nat) : Int) = 0 := rfl
  have e16 : ((16 : Nat) : Int) = 16 := rfl
  have ea : i8 (wd s 0 8) 1 = TA s := rfl
  have eb : i8 (wd s (0 + 8) 8) 1 = TB s := rfl
  have ec : i8 (wd s 16 8) 0 = TC s := rfl
  have ed : i8 (wd s (16 + 8) 8) 0 = TD s := rfl
  rw [e0, ea, eb] at u1
  rw [e16, ec, ed] at u2
  unfold TFit fit' bad
  cases c2 : rightc (TA s) (TB s) (TC s) (TD s) <;> cases c3 : decide (pc (TA s) (TB s) (TC s) (TD s) = s) <;> simp only [c55, u1, u2, U45, chk, sure, keep, keepb, c2, c3, rwA, rwB, Nat.reduceAdd, Nat.reduceMul, Nat.reduceLeDiff, Int.reduceEq, Int.reduceLT, Int.reduceLE, Int.reduceAdd, Int.reduceSub, Int.reduceMul, ↓reduceIte, Nat.reduceEqDiff, reduceCtorEq, ↓cnd_true, ↓cnd_false] <;> first | rfl | exact ⟨_, rfl⟩ | simp

theorem wd_lt (s : List UInt8) (k : Nat) : wd s k 8 < 18446744073709551616 := by
  unfold wd
  split
  · decide
  · exact be_lt8 _ (by rw [List.length_take]; omega)

/-- A bucket's record, word by word. -/
def BK (s : List UInt8) : Int := wi (wd s 0 1)
def BA (s : List UInt8) : Int := i8 (wd s 1 8) 1
def BB (s : List UInt8) : Int := i8 (wd s 9 8) 1
def BC (s : List UInt8) : Int := i8 (wd s 17 8) 0
def BD (s : List UInt8) : Int := i8 (wd s 25 8) 0
def BN (s : List UInt8) : Nat := wd s 33 8
def BFit (s : List UInt8) : Bool := fit' (bok (BK s) (BA s) (BB s) (BC s) (BD s)) (bval (BK s) (BA s) (BB s) (BC s) (BD s) (BN s)) s

theorem U57 (s : List UInt8) (H : AHeap) : AC A 57 [.str s] H = some (.tuple [.agg [.int .i64 (keep (BFit s) (BK s)), .int .i64 (keep (BFit s) (BA s)), .int .i64 (keep (BFit s) (BB s)), .int .i64 (keep (BFit s) (BC s)), .int .i64 (keep (BFit s) (BD s)), .int .u64 (keep (BFit s) (BN s : Int))], .int .i64 (bad (BFit s))], H) := by
  refine one_val (x := ReFns.c57) rfl rfl rfl rfl rfl ?_ H
  have u0 := U103 s 0 1 (by omega) (by omega)
  have u1 := U101 s 1 (by omega) 1
  have u2 := U101 s 17 (by omega) 0
  have u3 := U103 s 33 8 (by omega) (by omega)
  have e0 : ((0 : Nat) : Int) = 0 := rfl
  have e1 : ((1 : Nat) : Int) = 1 := rfl
  have e8 : ((8 : Nat) : Int) = 8 := rfl
  have e17 : ((17 : Nat) : Int) = 17 := rfl
  have e33 : ((33 : Nat) : Int) = 33 := rfl
  have ek : IntKind.i64.wrap (wd s 0 1 : Int) = BK s := rfl
  have ea : i8 (wd s 1 8) 1 = BA s := rfl
  have eb : i8 (wd s (1 + 8) 8) 1 = BB s := rfl
  have ec : i8 (wd s 17 8) 0 = BC s := rfl
  have ed : i8 (wd s (17 + 8) 8) 0 = BD s := rfl
  have en : wd s 33 8 = BN s := rfl
  rw [e0, e1] at u0
  rw [e1, ea, eb] at u1
  rw [e17, ec, ed] at u2
  rw [e33, e8, en] at u3
  have u47 := U47 (BK s) (BA s) (BB s) (BC s) (BD s) (BN s) (wd_lt s 33)
  unfold BFit fit' bad
  cases c2 : bok (BK s) (BA s) (BB s) (BC s) (BD s) <;> cases c3 : decide (bval (BK s) (BA s) (BB s) (BC s) (BD s) (BN s) = s) <;> simp only [c57, u0, ek, u1, u2, u3, u47, chk, sure, keep, keepb, c2, c3, rwA, rwB, Nat.reduceAdd, Nat.reduceMul, Nat.reduceLeDiff, Int.reduceEq, Int.reduceLT, Int.reduceLE, Int.reduceAdd, Int.reduceSub, Int.reduceMul, ↓reduceIte, Nat.reduceEqDiff, reduceCtorEq, ↓cnd_true, ↓cnd_false] <;> first | rfl | exact ⟨_, rfl⟩ | simp

/-- A version's record, word by word. -/
def VN (s : List UInt8) : Nat := wd s 0 8
def VM (s : List UInt8) : Bool := decide ((wd s 8 1 : Int) = 1)
def VC (s : List UInt8) : Int := w4 (wd s 9 4)
def VA (s : List UInt8) : Int := wi (wd s 13 2)
def VB (s : List UInt8) : Int := wi (wd s 15 2)
def VFit (s : List UInt8) : Bool := fit' (vok (VM s) (VC s) (VA s) (VB s)) (vval (VN s) (VM s) (VC s) (VA s) (VB s)) s

theorem U59 (s : List UInt8) (H : AHeap) : AC A 59 [.str s] H = some (.tuple [.agg [.int .u64 (keep (VFit s) (VN s : Int)), .bool (keepb (VFit s) (VM s)), .int .u32 (keep (VFit s) (VC s)), .int .i64 (keep (VFit s) (VA s)), .int .i64 (keep (VFit s) (VB s))], .int .i64 (bad (VFit s))], H) := by
  refine one_val (x := ReFns.c59) rfl rfl rfl rfl rfl ?_ H
  have u0 := U103 s 0 8 (by omega) (by omega)
  have u1 := U103 s 8 1 (by omega) (by omega)
  have u2 := U103 s 9 4 (by omega) (by omega)
  have u3 := U103 s 13 2 (by omega) (by omega)
  have u4 := U103 s 15 2 (by omega) (by omega)
  have n0 : ((0 : Nat) : Int) = 0 := rfl
  have n1 : ((1 : Nat) : Int) = 1 := rfl
  have n2 : ((2 : Nat) : Int) = 2 := rfl
  have n4 : ((4 : Nat) : Int) = 4 := rfl
  have n8 : ((8 : Nat) : Int) = 8 := rfl
  have n9 : ((9 : Nat) : Int) = 9 := rfl
  have n13 : ((13 : Nat) : Int) = 13 := rfl
  have n15 : ((15 : Nat) : Int) = 15 := rfl
  have ec : IntKind.u32.wrap (wd s 9 4 : Int) = VC s := rfl
  have ea : IntKind.i64.wrap (wd s 13 2 : Int) = VA s := rfl
  have eb : IntKind.i64.wrap (wd s 15 2 : Int) = VB s := rfl
  have en : wd s 0 8 = VN s := rfl
  have em : decide ((wd s 8 1 : Int) = 1) = VM s := rfl
  rw [n0, n8, en] at u0
  rw [n8, n1] at u1
  rw [n9, n4] at u2
  rw [n13, n2] at u3
  rw [n15, n2] at u4
  have u49 := U49 (VN s) (wd_lt s 0) (VM s) (VC s) (VA s) (VB s)
  unfold VFit fit' bad
  cases c2 : vok (VM s) (VC s) (VA s) (VB s) <;> cases c3 : decide (vval (VN s) (VM s) (VC s) (VA s) (VB s) = s) <;> simp only [c59, u0, u1, em, u2, ec, u3, ea, u4, eb, u49, chk, sure, keep, keepb, c2, c3, rwA, rwB, Nat.reduceAdd, Nat.reduceMul, Nat.reduceLeDiff, Int.reduceEq, Int.reduceLT, Int.reduceLE, Int.reduceAdd, Int.reduceSub, Int.reduceMul, ↓reduceIte, Nat.reduceEqDiff, reduceCtorEq, ↓cnd_true, ↓cnd_false] <;> first | rfl | exact ⟨_, rfl⟩ | simp

theorem U61 (s : List UInt8) (hs : s.length ≤ 4611686018427387904) (H : AHeap) : AC A 61 [.str s] H = some (.tuple [.str (sure (keyok s) s), .int .i64 (bad (keyok s))], H) := by
  refine one_val (x := ReFns.c61) rfl rfl rfl rfl rfl ?_ H
  unfold sure bad
  cases c1 : keyok s <;> simp only [c61, c1, U98 s hs, rwA, rwB, Nat.reduceAdd, Nat.reduceMul, Nat.reduceLeDiff, Int.reduceEq, Int.reduceLT, Int.reduceLE, Int.reduceAdd, Int.reduceSub, Int.reduceMul, ↓reduceIte, Nat.reduceEqDiff, reduceCtorEq, ↓cnd_true, ↓cnd_false] <;> rfl

/-- A part's record, word by word. -/
def PC (s : List UInt8) : Int := w4 (wd s 0 4)
def PA (s : List UInt8) : Int := wi (wd s 4 2)
def PB (s : List UInt8) : Int := wi (wd s 6 2)
def PFit (s : List UInt8) : Bool := fit' (blobok (PA s) (PB s)) (body (PC s) (PA s) (PB s)) s

theorem U63 (s : List UInt8) (H : AHeap) : AC A 63 [.str s] H = some (.tuple [.agg [.int .u32 (keep (PFit s) (PC s)), .int .i64 (keep (PFit s) (PA s)), .int .i64 (keep (PFit s) (PB s))], .int .i64 (bad (PFit s))], H) := by
  refine one_val (x := ReFns.c63) rfl rfl rfl rfl rfl ?_ H
  have u2 := U103 s 0 4 (by omega) (by omega)
  have u3 := U103 s 4 2 (by omega) (by omega)
  have u4 := U103 s 6 2 (by omega) (by omega)
  have n0 : ((0 : Nat) : Int) = 0 := rfl
  have n2 : ((2 : Nat) : Int) = 2 := rfl
  have n4 : ((4 : Nat) : Int) = 4 := rfl
  have n6 : ((6 : Nat) : Int) = 6 := rfl
  have ec : IntKind.u32.wrap (wd s 0 4 : Int) = PC s := rfl
  have ea : IntKind.i64.wrap (wd s 4 2 : Int) = PA s := rfl
  have eb : IntKind.i64.wrap (wd s 6 2 : Int) = PB s := rfl
  rw [n0, n4] at u2
  rw [n4, n2] at u3
  rw [n6, n2] at u4
  unfold PFit fit' bad
  cases c2 : blobok (PA s) (PB s) <;> cases c3 : decide (body (PC s) (PA s) (PB s) = s) <;> simp only [c63, u2, ec, u3, ea, u4, eb, U53, chk, sure, keep, keepb, c2, c3, rwA, rwB, Nat.reduceAdd, Nat.reduceMul, Nat.reduceLeDiff, Int.reduceEq, Int.reduceLT, Int.reduceLE, Int.reduceAdd, Int.reduceSub, Int.reduceMul, ↓reduceIte, Nat.reduceEqDiff, reduceCtorEq, ↓cnd_true, ↓cnd_false] <;> first | rfl | exact ⟨_, rfl⟩ | simp

end Go.Proofs.Ytmicohgachjcgaa.Re
