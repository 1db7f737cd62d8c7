/- The keys' chapter: the reference's own making. -/
import Derived.Test.YtmicohgachjcgaaKyl
set_option maxRecDepth 100000
set_option linter.unusedSimpArgs false
set_option linter.unusedVariables false
set_option maxHeartbeats 4000000
namespace Go.Proofs.Ytmicohgachjcgaa.Re
open Go Go.Proofs.Ytmicohgachjcgaa.Am ReFns Go.RowKit

theorem noff (n : Nat) (h : n < 18446744073709551616) : IntKind.u64.wrap (18446744073709551615 - (n : Int)) = ((18446744073709551615 - n : Nat) : Int) := by
  rw [show (18446744073709551615 - (n : Int)) = ((18446744073709551615 - n : Nat) : Int) by omega, wrap_u64 _ (by omega)]
theorem U67 (k t : Int) (b s : List UInt8) (n : Nat) (p : Int) (hs : s.length ≤ 4611686018427387904) (hn : n < 18446744073709551616) (H : AHeap) : AC A 67 [.agg [.int .i64 k, .int .i64 t, .str b, .str s, .int .u64 (n : Int), .int .i64 p]] H = some (.tuple [.str (sure (Key.right ⟨k, t, b, s, n, p⟩) (Key.bytes ⟨k, t, b, s, n, p⟩)), .int .i64 (chk (Key.right ⟨k, t, b, s, n, p⟩))], H) := by
  refine one_val (x := ReFns.c67) rfl rfl rfl rfl rfl ?_ H
  have u71 := U71 k t b s n p hs
  cases hR : Key.right ⟨k, t, b, s, n, p⟩
  · rw [hR] at u71
    simp only [chk_f, sure_f] at u71 ⊢
    simp only [c67, u71, rwA, rwB, Nat.reduceAdd, Nat.reduceMul, Nat.reduceLeDiff, Int.reduceEq, Int.reduceLT, Int.reduceLE, Int.reduceAdd, Int.reduceSub, Int.reduceMul, ↓reduceIte, Nat.reduceEqDiff, reduceCtorEq, ↓cnd_true, ↓cnd_false]
  · obtain ⟨hk, hb, hs, ht, hp⟩ := right_is' hR
    simp only at hk hb hs ht hp
    rw [hR] at u71
    simp only [chk_t, sure_t] at u71 ⊢
    have u22t := U22 1 (un t) (un_lt t)
    have u22p := U22 1 (un p) (un_lt p)
    have u22n := U22 8 n hn
    have u22o := U22 8 (18446744073709551615 - n) (by omega)
    have no := noff n hn
    unfold Key.bytes Key.tail front letter
    simp only
    have hk5 : k = 1 ∨ k = 2 ∨ k = 3 ∨ k = 4 ∨ k = 5 := by omega
    have lT : (num 1 (un t)).length = 1 := len1 _
    have lZ : (num 1 (un p)).length = 1 := len1 _
    have lX : (num 8 (18446744073709551615 - n)).length = 8 := len8 _
    have lY : (num 8 n).length = 8 := len8 n
    generalize num 1 (un t) = T at *
    generalize num 1 (un p) = Z at *
    generalize num 8 (18446744073709551615 - n) = X at *
    generalize num 8 n = Y at *
    have q0 := fun c : UInt8 => catS [c] T (by simp; omega)
    have q1 := fun c : UInt8 => catS (c :: T) b (by simp; omega)
    have q2 := fun c : UInt8 => catS (c :: T ++ b) [0] (by simp; omega)
    have q3 := fun c : UInt8 => catS (c :: T ++ b ++ [0]) s (by simp; omega)
    have q4 := fun c : UInt8 => catS (c :: T ++ b ++ [0] ++ s) [0] (by simp; omega)
    have q5 := fun c : UInt8 => catS (c :: T ++ b ++ [0] ++ s ++ [0]) X (by simp; omega)
    have q6 := fun c : UInt8 => catS (c :: T ++ b ++ [0]) Y (by simp; omega)
    have q7 := fun c : UInt8 => catS (c :: T ++ b ++ [0] ++ Y) Z (by simp; omega)
    simp only [List.cons_append, List.nil_append, List.append_assoc] at q0 q1 q2 q3 q4 q5 q6 q7
    rcases hk5 with rfl | rfl | rfl | rfl | rfl
    · simp only [c67, u71, wl0, rl1, wu, u22t, q0, q1, rwA, rwB, Nat.reduceAdd, Nat.reduceMul, Nat.reduceLeDiff, Int.reduceEq, Int.reduceLT, Int.reduceLE, Int.reduceAdd, Int.reduceSub, Int.reduceMul, ↓reduceIte, Nat.reduceEqDiff, reduceCtorEq, ↓cnd_true, ↓cnd_false]
      try simp
    · simp only [c67, u71, wl1, rl2, wu, u22t, q0, q1, rwA, rwB, Nat.reduceAdd, Nat.reduceMul, Nat.reduceLeDiff, Int.reduceEq, Int.reduceLT, Int.reduceLE, Int.reduceAdd, Int.reduceSub, Int.reduceMul, ↓reduceIte, Nat.reduceEqDiff, reduceCtorEq, ↓cnd_true, ↓cnd_false]
      try simp
    · simp only [c67, u71, wl2, rl3, wu, no, u22t, u22o, q0, q1, q2, q3, q4, q5, rwA, rwB, Nat.reduceAdd, Nat.reduceMul, Nat.reduceLeDiff, Int.reduceEq, Int.reduceLT, Int.reduceLE, Int.reduceAdd, Int.reduceSub, Int.reduceMul, ↓reduceIte, Nat.reduceEqDiff, reduceCtorEq, ↓cnd_true, ↓cnd_false]
      try simp
    · simp only [c67, u71, wl3, rl4, wu, u22t, u22n, q0, q1, q2, q6, rwA, rwB, Nat.reduceAdd, Nat.reduceMul, Nat.reduceLeDiff, Int.reduceEq, Int.reduceLT, Int.reduceLE, Int.reduceAdd, Int.reduceSub, Int.reduceMul, ↓reduceIte, Nat.reduceEqDiff, reduceCtorEq, ↓cnd_true, ↓cnd_false]
      try simp
    · simp only [c67, u71, wl4, rl5, wu, u22t, u22n, u22p, q0, q1, q2, q6, q7, rwA, rwB, Nat.reduceAdd, Nat.reduceMul, Nat.reduceLeDiff, Int.reduceEq, Int.reduceLT, Int.reduceLE, Int.reduceAdd, Int.reduceSub, Int.reduceMul, ↓reduceIte, Nat.reduceEqDiff, reduceCtorEq, ↓cnd_true, ↓cnd_false]
      try simp

/-- A key's first bytes, or none. -/
def cutk (k : Key) (m : Nat) : List UInt8 := sure k.right (k.bytes.take m)
theorem U116 (k t : Int) (b s : List UInt8) (n : Nat) (p : Int) (m : Nat) (hs : s.length ≤ 4611686018427387904) (hn : n < 18446744073709551616) (hm : Key.right ⟨k, t, b, s, n, p⟩ = true → m ≤ (Key.bytes ⟨k, t, b, s, n, p⟩).length) (H : AHeap) : AC A 116 [.agg [.int .i64 k, .int .i64 t, .str b, .str s, .int .u64 (n : Int), .int .i64 p], .int .i64 (m : Int)] H = some (.str (cutk ⟨k, t, b, s, n, p⟩ m), H) := by
  refine one_val (x := ReFns.c116) rfl rfl rfl rfl rfl ?_ H
  have u67 := U67 k t b s n p hs hn
  unfold cutk
  generalize Key.bytes ⟨k, t, b, s, n, p⟩ = X at *
  cases hR : Key.right ⟨k, t, b, s, n, p⟩ <;> rw [hR] at u67
  · simp only [chk_f, sure_f] at u67 ⊢
    simp only [c116, u67, rwA, rwB, Nat.reduceAdd, Nat.reduceMul, Nat.reduceLeDiff, Int.reduceEq, Int.reduceLT, Int.reduceLE, Int.reduceAdd, Int.reduceSub, Int.reduceMul, ↓reduceIte, Nat.reduceEqDiff, reduceCtorEq, ↓cnd_true, ↓cnd_false]
  · simp only [chk_t, sure_t] at u67 ⊢
    have s1 := slc_hi X m (by omega) (by have := hm hR; omega)
    rw [Int.toNat_natCast] at s1
    simp only [c116, u67, s1, List.drop_zero, rwA, rwB, Nat.reduceAdd, Nat.reduceMul, Nat.reduceLeDiff, Int.reduceEq, Int.reduceLT, Int.reduceLE, Int.reduceAdd, Int.reduceSub, Int.reduceMul, ↓reduceIte, Nat.reduceEqDiff, reduceCtorEq, ↓cnd_true, ↓cnd_false]

theorem bn_a : bnok [97] = true := by decide
theorem ky_a : keyok [97] = true := by decide
theorem nil_t : nilS [] = true := rfl
theorem dz : decide ((0 : Nat) = 0) = true := rfl
theorem dzi : decide ((0 : Int) = 0) = true := rfl
theorem dT : decide True = true := rfl
theorem right_2 (t : Int) : Key.right ⟨2, t, [97], [], 0, 0⟩ = tenok t := by
  unfold Key.right
  simp only [Int.reduceEq, ↓reduceIte, dT, bn_a, nil_t, dz, dzi, Bool.and_self, Bool.and_true]
theorem right_3 (t : Int) (b s : List UInt8) : Key.right ⟨3, t, b, s, 0, 0⟩ = ((tenok t && bnok b) && keyok s) := by
  unfold Key.right
  simp only [Int.reduceEq, ↓reduceIte, dT, dzi, Bool.and_true, Bool.and_assoc]
theorem right_4 (t : Int) (b : List UInt8) : Key.right ⟨4, t, b, [], 0, 0⟩ = (tenok t && bnok b) := by
  unfold Key.right
  simp only [Int.reduceEq, ↓reduceIte, dT, nil_t, dzi, Bool.and_true]
theorem right_5 (t : Int) (b : List UInt8) (n : Nat) : Key.right ⟨5, t, b, [], n, 1⟩ = (tenok t && bnok b) := by
  unfold Key.right
  have a : decide ((1 : Int) ≤ 1) = true := rfl
  have c : decide ((1 : Int) ≤ 16) = true := rfl
  simp only [Int.reduceEq, ↓reduceIte, nil_t, a, c, Bool.and_true]

theorem take_a (a x : List UInt8) (m : Nat) (h : m = a.length) : (a ++ x).take m = a := by subst h; exact List.take_left
theorem cutk2 (t : Int) : cutk ⟨2, t, [97], [], 0, 0⟩ 2 = bucketsp t := by
  unfold cutk bucketsp
  rw [right_2]
  congr 1
theorem cutk3 (t : Int) (b : List UInt8) : cutk ⟨3, t, b, [97], 0, 0⟩ (3 + b.length) = allp 3 t b := by
  unfold cutk allp
  rw [right_3, ky_a]
  have e : (decide ((3 : Int) ≤ 3) && decide ((3 : Int) < 6) && (tenok t && bnok b)) = (tenok t && bnok b && true) := by
    rw [Bool.and_true]
    try rfl
  rw [e]
  congr 1
  rw [bytes3, show front 3 t ++ (b ++ 0 :: ([97] ++ 0 :: num 8 (18446744073709551615 - 0))) = (front 3 t ++ (b ++ [0])) ++ ([97] ++ 0 :: num 8 (18446744073709551615 - 0)) by simp]
  exact take_a _ _ _ (by simp only [List.length_append, front_len, List.length_cons, List.length_nil]; omega)
theorem cutk4 (t : Int) (b : List UInt8) : cutk ⟨4, t, b, [], 0, 0⟩ (3 + b.length) = allp 4 t b := by
  unfold cutk allp
  rw [right_4]
  have e : (decide ((3 : Int) ≤ 4) && decide ((4 : Int) < 6) && (tenok t && bnok b)) = (tenok t && bnok b) := rfl
  rw [e]
  congr 1
  rw [bytes4, show front 4 t ++ (b ++ 0 :: num 8 0) = (front 4 t ++ (b ++ [0])) ++ num 8 0 by simp]
  exact take_a _ _ _ (by simp only [List.length_append, front_len, List.length_cons, List.length_nil]; omega)
theorem cutk5 (t : Int) (b : List UInt8) : cutk ⟨5, t, b, [], 0, 1⟩ (3 + b.length) = allp 5 t b := by
  unfold cutk allp
  rw [right_5]
  have e : (decide ((3 : Int) ≤ 5) && decide ((5 : Int) < 6) && (tenok t && bnok b)) = (tenok t && bnok b) := rfl
  rw [e]
  congr 1
  rw [bytes5, show front 5 t ++ (b ++ 0 :: (num 8 0 ++ num 1 (un 1))) = (front 5 t ++ (b ++ [0])) ++ (num 8 0 ++ num 1 (un 1)) by simp]
  exact take_a _ _ _ (by simp only [List.length_append, front_len, List.length_cons, List.length_nil]; omega)
theorem cutkC (t : Int) (b s : List UInt8) : cutk ⟨3, t, b, s, 0, 0⟩ (4 + b.length + s.length) = chainp t b s := by
  unfold cutk chainp
  rw [right_3]
  congr 1
  rw [bytes3, show front 3 t ++ (b ++ 0 :: (s ++ 0 :: num 8 (18446744073709551615 - 0))) = (front 3 t ++ (b ++ 0 :: (s ++ [0]))) ++ num 8 (18446744073709551615 - 0) by simp]
  exact take_a _ _ _ (by simp only [List.length_append, front_len, List.length_cons, List.length_nil]; omega)
theorem cutkP (t : Int) (b : List UInt8) (n : Nat) : cutk ⟨5, t, b, [], n, 1⟩ (11 + b.length) = piecep t b n := by
  unfold cutk piecep
  rw [right_5]
  congr 1
  rw [bytes5, show front 5 t ++ (b ++ 0 :: (num 8 n ++ num 1 (un 1))) = (front 5 t ++ (b ++ 0 :: num 8 n)) ++ num 1 (un 1) by simp]
  exact take_a _ _ _ (by simp only [List.length_append, front_len, List.length_cons, len8]; omega)

end Go.Proofs.Ytmicohgachjcgaa.Re
