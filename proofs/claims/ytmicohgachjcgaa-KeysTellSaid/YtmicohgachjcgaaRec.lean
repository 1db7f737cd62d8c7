/- What the records' writers answer. -/
import Derived.Test.YtmicohgachjcgaaReThree
set_option maxRecDepth 100000
set_option linter.unusedSimpArgs false
set_option linter.unusedVariables false
set_option maxHeartbeats 4000000
namespace Go.Proofs.Ytmicohgachjcgaa.Re
open Go Go.Proofs.Ytmicohgachjcgaa.Am ReFns Go.RowKit

/-! ### Small words -/
def un (x : Int) : Nat := (IntKind.u64.wrap x).toNat
theorem wu (x : Int) : IntKind.u64.wrap x = ((un x : Nat) : Int) := by
  unfold un
  rw [Int.toNat_of_nonneg]
  simp [IntKind.wrap, IntKind.signed, IntKind.bits]
  omega
theorem un_lt (x : Int) : un x < 18446744073709551616 := by
  unfold un
  simp [IntKind.wrap, IntKind.signed, IntKind.bits]
  omega
theorem num_n (w : Nat) (h : 1 ≤ w ∧ w ≤ 8) (n : Nat) : (num (w : Int) n).length = w := by
  unfold num; rw [if_pos (by omega), Int.toNat_natCast, encl_len]
theorem len8 (n : Nat) : (num 8 n).length = 8 := num_n 8 (by omega) n
theorem len4 (n : Nat) : (num 4 n).length = 4 := num_n 4 (by omega) n
theorem len2 (n : Nat) : (num 2 n).length = 2 := num_n 2 (by omega) n
theorem len1 (n : Nat) : (num 1 n).length = 1 := num_n 1 (by omega) n

def cnt (x : Int) : Bool := decide (0 ≤ x) && decide (x ≤ 1125899906842624)
def lim (x : Int) : Bool := decide (x = -1) || cnt x
def chk (b : Bool) : Int := if b then 0 else 18
theorem chk_0 (b : Bool) : decide (chk b = 0) = b := by cases b <;> rfl
def sure (b : Bool) (s : List UInt8) : List UInt8 := if b then s else []
def rightc (a b c d : Int) : Bool := (lim a && lim b) && (cnt c && cnt d)
def pc (a b c d : Int) : List UInt8 := num 8 (un (IntKind.i64.wrap (a + 1))) ++ num 8 (un (IntKind.i64.wrap (b + 1))) ++ num 8 (un c) ++ num 8 (un d)
theorem pc_len (a b c d : Int) : (pc a b c d).length = 32 := by unfold pc; simp only [List.length_append, len8]

theorem U149 (x : Int) (H : AHeap) : AC A 149 [.int .i64 x] H = some (.bool (cnt x), H) := by
  refine one_val (x := ReFns.c149) rfl rfl rfl rfl rfl ?_ H
  unfold cnt
  cases c1 : decide (0 ≤ x) <;> simp only [c149, c1, rwA, rwB, Nat.reduceAdd, Nat.reduceMul, Nat.reduceLeDiff, Int.reduceEq, Int.reduceLT, Int.reduceLE, Int.reduceAdd, Int.reduceSub, Int.reduceMul, ↓reduceIte, Nat.reduceEqDiff, reduceCtorEq, ↓cnd_true, ↓cnd_false] <;> simp

theorem U129 (x : Int) (H : AHeap) : AC A 129 [.int .i64 x] H = some (.bool (cnt x), H) := by
  refine one_val (x := ReFns.c129) rfl rfl rfl rfl rfl ?_ H
  unfold cnt
  cases c1 : decide (0 ≤ x) <;> simp only [c129, c1, rwA, rwB, Nat.reduceAdd, Nat.reduceMul, Nat.reduceLeDiff, Int.reduceEq, Int.reduceLT, Int.reduceLE, Int.reduceAdd, Int.reduceSub, Int.reduceMul, ↓reduceIte, Nat.reduceEqDiff, reduceCtorEq, ↓cnd_true, ↓cnd_false] <;> simp

theorem U148 (x : Int) (H : AHeap) : AC A 148 [.int .i64 x] H = some (.bool (lim x), H) := by
  refine one_val (x := ReFns.c148) rfl rfl rfl rfl rfl ?_ H
  unfold lim
  cases c1 : decide (x = -1) <;> simp only [c148, c1, U149, rwA, rwB, Nat.reduceAdd, Nat.reduceMul, Nat.reduceLeDiff, Int.reduceEq, Int.reduceLT, Int.reduceLE, Int.reduceAdd, Int.reduceSub, Int.reduceMul, ↓reduceIte, Nat.reduceEqDiff, reduceCtorEq, ↓cnd_true, ↓cnd_false] <;> simp

theorem U127 (a : Int) (b : Int) (H : AHeap) : AC A 127 [.agg [.int .i64 a, .int .i64 b]] H = some (.int .i64 (chk (lim a && lim b)), H) := by
  refine one_val (x := ReFns.c127) rfl rfl rfl rfl rfl ?_ H
  unfold chk
  cases c1 : lim a <;> cases c2 : lim b <;> simp only [c127, c1, c2, U148, rwA, rwB, Nat.reduceAdd, Nat.reduceMul, Nat.reduceLeDiff, Int.reduceEq, Int.reduceLT, Int.reduceLE, Int.reduceAdd, Int.reduceSub, Int.reduceMul, ↓reduceIte, Nat.reduceEqDiff, reduceCtorEq, ↓cnd_true, ↓cnd_false] <;> rfl

theorem U128 (a : Int) (b : Int) (H : AHeap) : AC A 128 [.agg [.int .i64 a, .int .i64 b]] H = some (.int .i64 (chk (cnt a && cnt b)), H) := by
  refine one_val (x := ReFns.c128) rfl rfl rfl rfl rfl ?_ H
  unfold chk
  cases c1 : cnt a <;> cases c2 : cnt b <;> simp only [c128, c1, c2, U149, rwA, rwB, Nat.reduceAdd, Nat.reduceMul, Nat.reduceLeDiff, Int.reduceEq, Int.reduceLT, Int.reduceLE, Int.reduceAdd, Int.reduceSub, Int.reduceMul, ↓reduceIte, Nat.reduceEqDiff, reduceCtorEq, ↓cnd_true, ↓cnd_false] <;> rfl

theorem U88 (a : Int) (b : Int) (c : Int) (d : Int) (H : AHeap) : AC A 88 [.agg [.int .i64 a, .int .i64 b], .agg [.int .i64 c, .int .i64 d]] H = some (.bool (rightc a b c d), H) := by
  refine one_val (x := ReFns.c88) rfl rfl rfl rfl rfl ?_ H
  unfold rightc
  cases c1 : (lim a && lim b) <;> cases c2 : (cnt c && cnt d) <;> simp only [c88, chk_0, c1, c2, U127, U128, rwA, rwB, Nat.reduceAdd, Nat.reduceMul, Nat.reduceLeDiff, Int.reduceEq, Int.reduceLT, Int.reduceLE, Int.reduceAdd, Int.reduceSub, Int.reduceMul, ↓reduceIte, Nat.reduceEqDiff, reduceCtorEq, ↓cnd_true, ↓cnd_false] <;> rfl

theorem U90 (a : Int) (b : Int) (H : AHeap) : AC A 90 [.agg [.int .i64 a, .int .i64 b]] H = some (.bool (lim a && lim b), H) := by
  refine one_val (x := ReFns.c90) rfl rfl rfl rfl rfl ?_ H
  unfold lim
  cases c1 : decide (a = -1) <;> cases c2 : decide (b = -1) <;> cases c3 : cnt a <;> cases c4 : cnt b <;> simp only [c90, c1, c2, c3, c4, U129, rwA, rwB, Nat.reduceAdd, Nat.reduceMul, Nat.reduceLeDiff, Int.reduceEq, Int.reduceLT, Int.reduceLE, Int.reduceAdd, Int.reduceSub, Int.reduceMul, ↓reduceIte, Nat.reduceEqDiff, reduceCtorEq, ↓cnd_true, ↓cnd_false] <;> rfl

theorem U91 (a : Int) (b : Int) (H : AHeap) : AC A 91 [.agg [.int .i64 a, .int .i64 b]] H = some (.bool (cnt a && cnt b), H) := by
  refine one_val (x := ReFns.c91) rfl rfl rfl rfl rfl ?_ H
  cases c3 : cnt a <;> cases c4 : cnt b <;> simp only [c91, c3, c4, U129, rwA, rwB, Nat.reduceAdd, Nat.reduceMul, Nat.reduceLeDiff, Int.reduceEq, Int.reduceLT, Int.reduceLE, Int.reduceAdd, Int.reduceSub, Int.reduceMul, ↓reduceIte, Nat.reduceEqDiff, reduceCtorEq, ↓cnd_true, ↓cnd_false] <;> rfl

theorem q2 (n m : Nat) : abin .add (.str (num 8 n)) (.str (num 8 m)) = some (.str (num 8 n ++ num 8 m)) := b_cat _ _ (by rw [len8, len8]; omega)
theorem q3 (n m k : Nat) : abin .add (.str (num 8 n ++ num 8 m)) (.str (num 8 k)) = some (.str (num 8 n ++ num 8 m ++ num 8 k)) := b_cat _ _ (by rw [List.length_append, len8, len8, len8]; omega)
theorem q4 (n m k l : Nat) : abin .add (.str (num 8 n ++ num 8 m ++ num 8 k)) (.str (num 8 l)) = some (.str (num 8 n ++ num 8 m ++ num 8 k ++ num 8 l)) := b_cat _ _ (by simp only [List.length_append, len8]; omega)

theorem U89 (a : Int) (b : Int) (c : Int) (d : Int) (H : AHeap) : AC A 89 [.agg [.int .i64 a, .int .i64 b], .agg [.int .i64 c, .int .i64 d]] H = some (.str (pc a b c d), H) := by
  refine one_val (x := ReFns.c89) rfl rfl rfl rfl rfl ?_ H
  unfold pc
  simp only [c89, wu, U21, q2, q3, q4, rwA, rwB, Nat.reduceAdd, Nat.reduceMul, Nat.reduceLeDiff, Int.reduceEq, Int.reduceLT, Int.reduceLE, Int.reduceAdd, Int.reduceSub, Int.reduceMul, ↓reduceIte, Nat.reduceEqDiff, reduceCtorEq, ↓cnd_true, ↓cnd_false]

theorem U130 (x : Int) (H : AHeap) : AC A 130 [.int .i64 x] H = some (.str (num 8 (un x)), H) := by
  refine one_val (x := ReFns.c130) rfl rfl rfl rfl rfl ?_ H
  simp only [c130, wu, U22 8 _ (un_lt x), rwA, rwB, Nat.reduceAdd, Nat.reduceMul, Nat.reduceLeDiff, Int.reduceEq, Int.reduceLT, Int.reduceLE, Int.reduceAdd, Int.reduceSub, Int.reduceMul, ↓reduceIte, Nat.reduceEqDiff, reduceCtorEq, ↓cnd_true, ↓cnd_false]

theorem U92 (a : Int) (b : Int) (c : Int) (d : Int) (H : AHeap) : AC A 92 [.agg [.int .i64 a, .int .i64 b], .agg [.int .i64 c, .int .i64 d]] H = some (.str (pc a b c d), H) := by
  refine one_val (x := ReFns.c92) rfl rfl rfl rfl rfl ?_ H
  unfold pc
  simp only [c92, U130, q2, q3, q4, rwA, rwB, Nat.reduceAdd, Nat.reduceMul, Nat.reduceLeDiff, Int.reduceEq, Int.reduceLT, Int.reduceLE, Int.reduceAdd, Int.reduceSub, Int.reduceMul, ↓reduceIte, Nat.reduceEqDiff, reduceCtorEq, ↓cnd_true, ↓cnd_false]

theorem U87 (b : Bool) (s : List UInt8) (H : AHeap) : AC A 87 [.bool b, .str s] H = some (.tuple [.str (sure b s), .int .i64 (chk b)], H) := by
  refine one_val (x := ReFns.c87) rfl rfl rfl rfl rfl ?_ H
  unfold sure chk
  cases b <;> simp only [c87, rwA, rwB, Nat.reduceAdd, Nat.reduceMul, Nat.reduceLeDiff, Int.reduceEq, Int.reduceLT, Int.reduceLE, Int.reduceAdd, Int.reduceSub, Int.reduceMul, ↓reduceIte, Nat.reduceEqDiff, reduceCtorEq, ↓cnd_true, ↓cnd_false] <;> rfl

theorem U44 (a : Int) (b : Int) (c : Int) (d : Int) (H : AHeap) : AC A 44 [.agg [.int .i64 a, .int .i64 b, .int .i64 c, .int .i64 d]] H = some (.tuple [.str (sure (rightc a b c d) (pc a b c d)), .int .i64 (chk (rightc a b c d))], H) := by
  refine one_val (x := ReFns.c44) rfl rfl rfl rfl rfl ?_ H
  simp only [c44, U88, U89, U87, rwA, rwB, Nat.reduceAdd, Nat.reduceMul, Nat.reduceLeDiff, Int.reduceEq, Int.reduceLT, Int.reduceLE, Int.reduceAdd, Int.reduceSub, Int.reduceMul, ↓reduceIte, Nat.reduceEqDiff, reduceCtorEq, ↓cnd_true, ↓cnd_false]

theorem U45 (a : Int) (b : Int) (c : Int) (d : Int) (H : AHeap) : AC A 45 [.agg [.int .i64 a, .int .i64 b, .int .i64 c, .int .i64 d]] H = some (.tuple [.str (sure (rightc a b c d) (pc a b c d)), .int .i64 (chk (rightc a b c d))], H) := by
  refine one_val (x := ReFns.c45) rfl rfl rfl rfl rfl ?_ H
  unfold rightc sure chk
  cases c1 : (lim a && lim b) <;> cases c2 : (cnt c && cnt d) <;> simp only [c45, c1, c2, U90, U91, U92, rwA, rwB, Nat.reduceAdd, Nat.reduceMul, Nat.reduceLeDiff, Int.reduceEq, Int.reduceLT, Int.reduceLE, Int.reduceAdd, Int.reduceSub, Int.reduceMul, ↓reduceIte, Nat.reduceEqDiff, reduceCtorEq, ↓cnd_true, ↓cnd_false] <;> rfl

/-! ### A bucket's record -/
def bok (k a b c d : Int) : Bool := (decide (0 ≤ k) && decide (k < 3)) && rightc a b c d
def bval (k a b c d : Int) (n : Nat) : List UInt8 := num 1 (un k) ++ pc a b c d ++ num 8 n
theorem q5 (k : Nat) (a b c d : Int) : abin .add (.str (num 1 k)) (.str (pc a b c d)) = some (.str (num 1 k ++ pc a b c d)) := b_cat _ _ (by rw [len1, pc_len]; omega)
theorem q6 (k : Nat) (a b c d : Int) (n : Nat) : abin .add (.str (num 1 k ++ pc a b c d)) (.str (num 8 n)) = some (.str (num 1 k ++ pc a b c d ++ num 8 n)) := b_cat _ _ (by rw [List.length_append, len1, pc_len, len8]; omega)

theorem U46 (k : Int) (a : Int) (b : Int) (c : Int) (d : Int) (n : Nat) (H : AHeap) : AC A 46 [.agg [.int .i64 k, .int .i64 a, .int .i64 b, .int .i64 c, .int .i64 d, .int .u64 (n : Int)]] H = some (.tuple [.str (sure (bok k a b c d) (bval k a b c d n)), .int .i64 (chk (bok k a b c d))], H) := by
  refine one_val (x := ReFns.c46) rfl rfl rfl rfl rfl ?_ H
  unfold bok bval
  cases c1 : decide (0 ≤ k) <;> cases c2 : decide (k < 3) <;> cases c3 : rightc a b c d <;> simp only [c46, c1, c2, c3, wu, U88, U89, U87, U21, q5, q6, rwA, rwB, Nat.reduceAdd, Nat.reduceMul, Nat.reduceLeDiff, Int.reduceEq, Int.reduceLT, Int.reduceLE, Int.reduceAdd, Int.reduceSub, Int.reduceMul, ↓reduceIte, Nat.reduceEqDiff, reduceCtorEq, ↓cnd_true, ↓cnd_false] <;> rfl

theorem U47 (k a b c d : Int) (n : Nat) (hn : n < 18446744073709551616) (H : AHeap) : AC A 47 [.agg [.int .i64 k, .int .i64 a, .int .i64 b, .int .i64 c, .int .i64 d, .int .u64 (n : Int)]] H = some (.tuple [.str (sure (bok k a b c d) (bval k a b c d n)), .int .i64 (chk (bok k a b c d))], H) := by
  refine one_val (x := ReFns.c47) rfl rfl rfl rfl rfl ?_ H
  have e0 : decide (0 ≤ k) = !decide (k < 0) := by rw [Bool.eq_iff_iff]; simp
  have e1 : decide (k < 3) = !decide (2 < k) := by rw [Bool.eq_iff_iff]; simp; omega
  unfold bok rightc bval sure chk
  rw [e0, e1]
  cases c1 : decide (k < 0) <;> cases c2 : decide (2 < k) <;> cases c3 : (lim a && lim b) <;> cases c4 : (cnt c && cnt d) <;> simp only [c47, c1, c2, c3, c4, wu, U90, U91, U92, U22 1 _ (un_lt k), U22 8 n hn, q5, q6, rwA, rwB, Nat.reduceAdd, Nat.reduceMul, Nat.reduceLeDiff, Int.reduceEq, Int.reduceLT, Int.reduceLE, Int.reduceAdd, Int.reduceSub, Int.reduceMul, ↓reduceIte, Nat.reduceEqDiff, reduceCtorEq, ↓cnd_true, ↓cnd_false] <;> rfl

/-! ### A version's record -/
def blobok (a b : Int) : Bool := (decide (a = 0) && decide (b = 0)) || (((decide (2 ≤ a) && decide (a < 3840)) && decide (1 ≤ b)) && decide (b ≤ 4096))
def body (c a b : Int) : List UInt8 := num 4 (un c) ++ num 2 (un a) ++ num 2 (un b)
theorem body_len (c a b : Int) : (body c a b).length = 8 := by unfold body; simp only [List.length_append, len4, len2]
theorem q7 (n m : Nat) : abin .add (.str (num 4 n)) (.str (num 2 m)) = some (.str (num 4 n ++ num 2 m)) := b_cat _ _ (by rw [len4, len2]; omega)
theorem q8 (n m k : Nat) : abin .add (.str (num 4 n ++ num 2 m)) (.str (num 2 k)) = some (.str (num 4 n ++ num 2 m ++ num 2 k)) := b_cat _ _ (by simp only [List.length_append, len4, len2]; omega)

theorem U93 (a : Int) (b : Int) (H : AHeap) : AC A 93 [.agg [.int .i64 a, .int .i64 b]] H = some (.bool (blobok a b), H) := by
  refine one_val (x := ReFns.c93) rfl rfl rfl rfl rfl ?_ H
  unfold blobok
  cases c1 : decide (a = 0) <;> cases c2 : decide (b = 0) <;> cases c3 : decide (2 ≤ a) <;> cases c4 : decide (a < 3840) <;> cases c5 : decide (1 ≤ b) <;> simp only [c93, c1, c2, c3, c4, c5, rwA, rwB, Nat.reduceAdd, Nat.reduceMul, Nat.reduceLeDiff, Int.reduceEq, Int.reduceLT, Int.reduceLE, Int.reduceAdd, Int.reduceSub, Int.reduceMul, ↓reduceIte, Nat.reduceEqDiff, reduceCtorEq, ↓cnd_true, ↓cnd_false] <;> first | exact ⟨_, rfl⟩ | simp

theorem U95 (a : Int) (b : Int) (H : AHeap) : AC A 95 [.agg [.int .i64 a, .int .i64 b]] H = some (.bool (blobok a b), H) := by
  refine one_val (x := ReFns.c95) rfl rfl rfl rfl rfl ?_ H
  unfold blobok
  have e1 : decide (a < 3840) = decide (a ≤ 3839) := by rw [Bool.eq_iff_iff]; simp; omega
  rw [e1]
  cases c1 : decide (a = 0) <;> cases c2 : decide (b = 0) <;> cases c3 : decide (2 ≤ a) <;> cases c4 : decide (a ≤ 3839) <;> cases c5 : decide (1 ≤ b) <;> simp only [c95, c1, c2, c3, c4, c5, rwA, rwB, Nat.reduceAdd, Nat.reduceMul, Nat.reduceLeDiff, Int.reduceEq, Int.reduceLT, Int.reduceLE, Int.reduceAdd, Int.reduceSub, Int.reduceMul, ↓reduceIte, Nat.reduceEqDiff, reduceCtorEq, ↓cnd_true, ↓cnd_false] <;> first | exact ⟨_, rfl⟩ | simp

theorem U94 (c : Int) (a : Int) (b : Int) (H : AHeap) : AC A 94 [.int .u32 c, .agg [.int .i64 a, .int .i64 b]] H = some (.str (body c a b), H) := by
  refine one_val (x := ReFns.c94) rfl rfl rfl rfl rfl ?_ H
  unfold body
  simp only [c94, wu, U21, q7, q8, rwA, rwB, Nat.reduceAdd, Nat.reduceMul, Nat.reduceLeDiff, Int.reduceEq, Int.reduceLT, Int.reduceLE, Int.reduceAdd, Int.reduceSub, Int.reduceMul, ↓reduceIte, Nat.reduceEqDiff, reduceCtorEq, ↓cnd_true, ↓cnd_false]

theorem U96 (c : Int) (a : Int) (b : Int) (H : AHeap) : AC A 96 [.int .u32 c, .agg [.int .i64 a, .int .i64 b]] H = some (.str (body c a b), H) := by
  refine one_val (x := ReFns.c96) rfl rfl rfl rfl rfl ?_ H
  unfold body
  simp only [c96, wu, U22 4 _ (un_lt c), U22 2 _ (un_lt a), U22 2 _ (un_lt b), q7, q8, rwA, rwB, Nat.reduceAdd, Nat.reduceMul, Nat.reduceLeDiff, Int.reduceEq, Int.reduceLT, Int.reduceLE, Int.reduceAdd, Int.reduceSub, Int.reduceMul, ↓reduceIte, Nat.reduceEqDiff, reduceCtorEq, ↓cnd_true, ↓cnd_false]

def vok (d : Bool) (c a b : Int) : Bool := blobok a b && (!d || (decide (c = 0) && (decide (a = 0) && decide (b = 0))))
def bit (d : Bool) : Nat := if d then 1 else 0
def vval (n : Nat) (d : Bool) (c a b : Int) : List UInt8 := num 8 n ++ num 1 (bit d) ++ body c a b
theorem q9 (n m : Nat) : abin .add (.str (num 8 n)) (.str (num 1 m)) = some (.str (num 8 n ++ num 1 m)) := b_cat _ _ (by rw [len8, len1]; omega)
theorem q10 (n m : Nat) (c a b : Int) : abin .add (.str (num 8 n ++ num 1 m)) (.str (body c a b)) = some (.str (num 8 n ++ num 1 m ++ body c a b)) := b_cat _ _ (by rw [List.length_append, len8, len1, body_len]; omega)
theorem bit_1 : num 1 1 = [1] := by kernel_rfl
theorem bit_0 : num 1 0 = [0] := by kernel_rfl

theorem U48 (n : Nat) (d : Bool) (c : Int) (a : Int) (b : Int) (H : AHeap) : AC A 48 [.agg [.int .u64 (n : Int), .bool d, .int .u32 c, .int .i64 a, .int .i64 b]] H = some (.tuple [.str (sure (vok d c a b) (vval n d c a b)), .int .i64 (chk (vok d c a b))], H) := by
  refine one_val (x := ReFns.c48) rfl rfl rfl rfl rfl ?_ H
  have z : (0 : Int) = ((0 : Nat) : Int) := rfl
  have o : (1 : Int) = ((1 : Nat) : Int) := rfl
  have u0 := U21 1 0
  have u1 := U21 1 1
  have e0 : (((0 : Nat)) : Int) = 0 := rfl
  have e1 : (((1 : Nat)) : Int) = 1 := rfl
  rw [e0] at u0
  rw [e1] at u1
  unfold vok vval bit
  cases d <;> cases c1 : blobok a b <;> cases c2 : decide (c = 0) <;> cases c3 : decide (a = 0) <;> cases c4 : decide (b = 0) <;> simp only [c48, c1, c2, c3, c4, u0, u1, U93, U94, U87, U21, q9, q10, rwA, rwB, Nat.reduceAdd, Nat.reduceMul, Nat.reduceLeDiff, Int.reduceEq, Int.reduceLT, Int.reduceLE, Int.reduceAdd, Int.reduceSub, Int.reduceMul, ↓reduceIte, Nat.reduceEqDiff, reduceCtorEq, ↓cnd_true, ↓cnd_false] <;> rfl

end Go.Proofs.Ytmicohgachjcgaa.Re
