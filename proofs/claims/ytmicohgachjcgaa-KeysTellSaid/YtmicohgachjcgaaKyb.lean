/- The keys' chapter: whether a key may be, and its bytes. -/
import Derived.Test.YtmicohgachjcgaaKya
set_option maxRecDepth 100000
set_option linter.unusedSimpArgs false
set_option linter.unusedVariables false
set_option maxHeartbeats 4000000
namespace Go.Proofs.Ytmicohgachjcgaa.Re
open Go Go.Proofs.Ytmicohgachjcgaa.Am ReFns Go.RowKit

/-- A key: kind, tenant, bucket, name, number, part. -/
structure Key where
  kind : Int
  ten : Int
  bucket : List UInt8
  name : List UInt8
  nr : Nat
  part : Int
def Key.cells (k : Key) : List AVal := [.int .i64 k.kind, .int .i64 k.ten, .str k.bucket, .str k.name, .int .u64 (k.nr : Int), .int .i64 k.part]
def tenok (n : Int) : Bool := decide (0 ≤ n) && decide (n < 8)
def nilS (s : List UInt8) : Bool := decide (s = [])
/-- May the key be? -/
def Key.right (k : Key) : Bool :=
  tenok k.ten && (if k.kind = 1 then ((nilS k.bucket && nilS k.name) && decide (k.nr = 0)) && decide (k.part = 0)
  else if k.kind = 2 then bnok k.bucket && ((nilS k.name && decide (k.part = 0)) && decide (k.nr = 0))
  else if k.kind = 3 then bnok k.bucket && (keyok k.name && decide (k.part = 0))
  else if k.kind = 4 then bnok k.bucket && (nilS k.name && decide (k.part = 0))
  else if k.kind = 5 then bnok k.bucket && ((decide (1 ≤ k.part) && decide (k.part ≤ 16)) && nilS k.name)
  else false)
def letter (k : Int) : UInt8 := if k = 1 then 84 else if k = 2 then 66 else if k = 3 then 86 else if k = 4 then 85 else 80
def front (k n : Int) : List UInt8 := letter k :: num 1 (un n)
def Key.tail (k : Key) : List UInt8 :=
  if k.kind = 3 then 0 :: (k.name ++ 0 :: num 8 (18446744073709551615 - k.nr))
  else if k.kind = 4 then 0 :: num 8 k.nr
  else if k.kind = 5 then 0 :: (num 8 k.nr ++ num 1 (un k.part))
  else []
def Key.bytes (k : Key) : List UInt8 := front k.kind k.ten ++ (k.bucket ++ k.tail)

theorem n0 (n : Nat) : decide ((n : Int) = 0) = decide (n = 0) := by rw [Bool.eq_iff_iff]; simp
theorem di (x : Int) : decide (x = x) = true := by simp
theorem dl (x : List UInt8) : decide (x = x) = true := by simp
theorem lbe (x y : List UInt8) : (x == y) = decide (x = y) := by rw [Bool.eq_iff_iff]; simp
theorem ibe (x y : Int) : (x == y) = decide (x = y) := by rw [Bool.eq_iff_iff]; simp
theorem z1 : decide ((1 : Int) ≤ 0) = false := rfl

/-- The five kinds, and the others. -/
theorem kinds (k : Int) : k = 1 ∨ k = 2 ∨ k = 3 ∨ k = 4 ∨ k = 5 ∨ (k < 1 ∨ 5 < k) := by omega

theorem U66 (k : Int) (t : Int) (b : List UInt8) (s : List UInt8) (n : Nat) (p : Int) (H : AHeap) : AC A 66 [.agg [.int .i64 k, .int .i64 t, .str b, .str s, .int .u64 (n : Int), .int .i64 p]] H = some (.agg [.int .i64 k, .int .i64 t, .str b, .str s, .int .u64 (n : Int), .int .i64 p], H) := by
  refine one_val (x := ReFns.c66) rfl rfl rfl rfl rfl ?_ H
  simp only [c66, rwA, rwB, Nat.reduceAdd, Nat.reduceMul, Nat.reduceLeDiff, Int.reduceEq, Int.reduceLT, Int.reduceLE, Int.reduceAdd, Int.reduceSub, Int.reduceMul, ↓reduceIte, Nat.reduceEqDiff, reduceCtorEq, ↓cnd_true, ↓cnd_false]

theorem U71 (k t : Int) (b s : List UInt8) (n : Nat) (p : Int) (hs : s.length ≤ 4611686018427387904) (H : AHeap) : AC A 71 [.agg [.int .i64 k, .int .i64 t, .str b, .str s, .int .u64 (n : Int), .int .i64 p]] H = some (.bool (Key.right ⟨k, t, b, s, n, p⟩), H) := by
  refine one_val (x := ReFns.c71) rfl rfl rfl rfl rfl ?_ H
  have u98 := U98 s hs
  have ht : decide (t < 0) = !decide (0 ≤ t) := by rw [Bool.eq_iff_iff]; simp
  have ht2 : decide (7 < t) = !decide (t < 8) := by rw [Bool.eq_iff_iff]; simp; omega
  have hn := n0 n
  unfold Key.right tenok nilS
  simp only
  rcases kinds k with rfl | rfl | rfl | rfl | rfl | hk
  · rw [if_pos rfl]
    cases d1 : decide (0 ≤ t) <;> cases d2 : decide (t < 8) <;> cases d3 : decide (b = []) <;> cases d4 : decide (s = []) <;> cases d5 : decide (n = 0) <;> cases d6 : decide (p = 0) <;> rw [d5] at hn <;> simp only [c71, ht, ht2, lbe, ibe, d1, d2, d3, d4, hn, d6, di, rwA, rwB, Nat.reduceAdd, Nat.reduceMul, Nat.reduceLeDiff, Int.reduceEq, Int.reduceLT, Int.reduceLE, Int.reduceAdd, Int.reduceSub, Int.reduceMul, ↓reduceIte, Nat.reduceEqDiff, reduceCtorEq, ↓cnd_true, ↓cnd_false] <;> rfl
  · rw [if_neg (by decide), if_pos rfl]
    cases d1 : decide (0 ≤ t) <;> cases d2 : decide (t < 8) <;> cases d3 : bnok b <;> cases d4 : decide (s = []) <;> cases d5 : decide (n = 0) <;> cases d6 : decide (p = 0) <;> rw [d5] at hn <;> simp only [c71, ht, ht2, d1, d2, d3, d4, hn, d6, U114, rwA, rwB, Nat.reduceAdd, Nat.reduceMul, Nat.reduceLeDiff, Int.reduceEq, Int.reduceLT, Int.reduceLE, Int.reduceAdd, Int.reduceSub, Int.reduceMul, ↓reduceIte, Nat.reduceEqDiff, reduceCtorEq, ↓cnd_true, ↓cnd_false] <;> rfl
  · rw [if_neg (by decide), if_neg (by decide), if_pos rfl]
    cases d1 : decide (0 ≤ t) <;> cases d2 : decide (t < 8) <;> cases d3 : bnok b <;> cases d4 : keyok s <;> cases d6 : decide (p = 0) <;> simp only [c71, ht, ht2, d1, d2, d3, d4, u98, d6, U114, rwA, rwB, Nat.reduceAdd, Nat.reduceMul, Nat.reduceLeDiff, Int.reduceEq, Int.reduceLT, Int.reduceLE, Int.reduceAdd, Int.reduceSub, Int.reduceMul, ↓reduceIte, Nat.reduceEqDiff, reduceCtorEq, ↓cnd_true, ↓cnd_false] <;> rfl
  · rw [if_neg (by decide), if_neg (by decide), if_neg (by decide), if_pos rfl]
    cases d1 : decide (0 ≤ t) <;> cases d2 : decide (t < 8) <;> cases d3 : bnok b <;> cases d4 : decide (s = []) <;> cases d6 : decide (p = 0) <;> simp only [c71, ht, ht2, d1, d2, d3, d4, d6, U114, rwA, rwB, Nat.reduceAdd, Nat.reduceMul, Nat.reduceLeDiff, Int.reduceEq, Int.reduceLT, Int.reduceLE, Int.reduceAdd, Int.reduceSub, Int.reduceMul, ↓reduceIte, Nat.reduceEqDiff, reduceCtorEq, ↓cnd_true, ↓cnd_false] <;> rfl
  · rw [if_neg (by decide), if_neg (by decide), if_neg (by decide), if_neg (by decide), if_pos rfl]
    cases d1 : decide (0 ≤ t) <;> cases d2 : decide (t < 8) <;> cases d3 : bnok b <;> cases d4 : decide (s = []) <;> cases d6 : decide (1 ≤ p) <;> cases d7 : decide (p ≤ 16) <;> simp only [c71, ht, ht2, d1, d2, d3, d4, d6, d7, U114, rwA, rwB, Nat.reduceAdd, Nat.reduceMul, Nat.reduceLeDiff, Int.reduceEq, Int.reduceLT, Int.reduceLE, Int.reduceAdd, Int.reduceSub, Int.reduceMul, ↓reduceIte, Nat.reduceEqDiff, reduceCtorEq, ↓cnd_true, ↓cnd_false] <;> rfl
  · rw [if_neg (by omega), if_neg (by omega), if_neg (by omega), if_neg (by omega), if_neg (by omega), Bool.and_false]
    rcases hk with hk | hk
    · have e1 : decide (k < 1) = true := decide_eq_true hk
      simp only [c71, e1, rwA, rwB, Nat.reduceAdd, Nat.reduceMul, Nat.reduceLeDiff, Int.reduceEq, Int.reduceLT, Int.reduceLE, Int.reduceAdd, Int.reduceSub, Int.reduceMul, ↓reduceIte, Nat.reduceEqDiff, reduceCtorEq, ↓cnd_true, ↓cnd_false]
    · have e1 : decide (k < 1) = false := decide_eq_false (by omega)
      have e2 : decide (5 < k) = true := decide_eq_true hk
      simp only [c71, e1, e2, rwA, rwB, Nat.reduceAdd, Nat.reduceMul, Nat.reduceLeDiff, Int.reduceEq, Int.reduceLT, Int.reduceLE, Int.reduceAdd, Int.reduceSub, Int.reduceMul, ↓reduceIte, Nat.reduceEqDiff, reduceCtorEq, ↓cnd_true, ↓cnd_false]

/-- A key without what its kind may have, and whether that is right. -/
def Key.bare (k : Key) : Key :=
  { k with bucket := if k.kind = 1 then k.bucket else [], name := if k.kind = 3 then [] else k.name, nr := if k.kind = 3 ∨ k.kind = 4 ∨ k.kind = 5 then 0 else k.nr, part := if k.kind = 5 then 0 else k.part }
def Key.bok (k : Key) : Bool :=
  if k.kind = 1 then tenok k.ten
  else if k.kind = 3 then (tenok k.ten && bnok k.bucket) && keyok k.name
  else if k.kind = 5 then ((tenok k.ten && bnok k.bucket) && decide (1 ≤ k.part)) && decide (k.part ≤ 16)
  else tenok k.ten && bnok k.bucket

theorem U113 (k : Int) (t : Int) (b : List UInt8) (s : List UInt8) (n : Nat) (p : Int) (H : AHeap) : AC A 113 [.agg [.int .i64 k, .int .i64 t, .str b, .str s, .int .u64 (n : Int), .int .i64 p]] H = some (.tuple [.agg (Key.cells (Key.bare ⟨k, t, b, s, n, p⟩)), .bool (Key.bok ⟨k, t, b, s, n, p⟩)], H) := by
  refine one_val (x := ReFns.c113) rfl rfl rfl rfl rfl ?_ H
  have u115 := U115 t
  rw [show (decide (0 ≤ t) && decide (t < 8)) = tenok t from rfl] at u115
  unfold Key.bok Key.bare Key.cells
  simp only
  by_cases k1 : k = 1
  · subst k1
    simp only [Int.reduceEq, false_or, or_false, or_true, true_or, or_self, ↓reduceIte]
    simp only [c113, u115, rwA, rwB, Nat.reduceAdd, Nat.reduceMul, Nat.reduceLeDiff, Int.reduceEq, Int.reduceLT, Int.reduceLE, Int.reduceAdd, Int.reduceSub, Int.reduceMul, ↓reduceIte, Nat.reduceEqDiff, reduceCtorEq, ↓cnd_true, ↓cnd_false]
  · have e1 : decide (k = 1) = false := decide_eq_false k1
    by_cases k5 : k = 5
    · subst k5
      simp only [Int.reduceEq, false_or, or_false, or_true, true_or, or_self, ↓reduceIte]
      cases d1 : tenok t <;> cases d2 : bnok b <;> cases d3 : decide (1 ≤ p) <;> rw [d1] at u115 <;> simp only [c113, u115, d2, d3, U117, chk_0, rwA, rwB, Nat.reduceAdd, Nat.reduceMul, Nat.reduceLeDiff, Int.reduceEq, Int.reduceLT, Int.reduceLE, Int.reduceAdd, Int.reduceSub, Int.reduceMul, ↓reduceIte, Nat.reduceEqDiff, reduceCtorEq, ↓cnd_true, ↓cnd_false] <;> rfl
    · have e5 : decide (k = 5) = false := decide_eq_false k5
      by_cases k3 : k = 3
      · subst k3
        simp only [Int.reduceEq, false_or, or_false, or_true, true_or, or_self, ↓reduceIte]
        cases d1 : tenok t <;> cases d2 : bnok b <;> cases d3 : keyok s <;> rw [d1] at u115 <;> simp only [c113, u115, d2, d3, U117, U97, chk_0, rwA, rwB, Nat.reduceAdd, Nat.reduceMul, Nat.reduceLeDiff, Int.reduceEq, Int.reduceLT, Int.reduceLE, Int.reduceAdd, Int.reduceSub, Int.reduceMul, ↓reduceIte, Nat.reduceEqDiff, reduceCtorEq, ↓cnd_true, ↓cnd_false] <;> rfl
      · have e3 : decide (k = 3) = false := decide_eq_false k3
        by_cases k4 : k = 4
        · subst k4
          simp only [Int.reduceEq, false_or, or_false, or_true, true_or, or_self, ↓reduceIte]
          cases d1 : tenok t <;> cases d2 : bnok b <;> rw [d1] at u115 <;> simp only [c113, u115, d2, U117, chk_0, rwA, rwB, Nat.reduceAdd, Nat.reduceMul, Nat.reduceLeDiff, Int.reduceEq, Int.reduceLT, Int.reduceLE, Int.reduceAdd, Int.reduceSub, Int.reduceMul, ↓reduceIte, Nat.reduceEqDiff, reduceCtorEq, ↓cnd_true, ↓cnd_false] <;> rfl
        · have e4 : decide (k = 4) = false := decide_eq_false k4
          simp only [k1, k3, k4, k5, or_self, ↓reduceIte]
          cases d1 : tenok t <;> cases d2 : bnok b <;> rw [d1] at u115 <;> simp only [c113, u115, e1, e3, e4, e5, d2, U117, chk_0, rwA, rwB, Nat.reduceAdd, Nat.reduceMul, Nat.reduceLeDiff, Int.reduceEq, Int.reduceLT, Int.reduceLE, Int.reduceAdd, Int.reduceSub, Int.reduceMul, ↓reduceIte, Nat.reduceEqDiff, reduceCtorEq, ↓cnd_true, ↓cnd_false] <;> rfl

end Go.Proofs.Ytmicohgachjcgaa.Re
