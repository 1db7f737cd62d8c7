/- The keys' chapter: a key's bytes, ours and the reference's. -/
import Derived.Test.YtmicohgachjcgaaKyb
set_option maxRecDepth 100000
set_option linter.unusedSimpArgs false
set_option linter.unusedVariables false
set_option maxHeartbeats 4000000
namespace Go.Proofs.Ytmicohgachjcgaa.Re
open Go Go.Proofs.Ytmicohgachjcgaa.Am ReFns Go.RowKit

theorem chk_t : chk true = 0 := hid rfl
theorem chk_f : chk false = 18 := hid rfl
theorem sure_t (s : List UInt8) : sure true s = s := hid rfl
theorem sure_f (s : List UInt8) : sure false s = [] := hid rfl

/-- What is said of a key without what its kind may have. -/
def Key.plainB (k : Key) : Bool := ((((k.bok && decide (0 < k.kind)) && decide (k.kind < 6)) && (nilS k.bare.bucket && nilS k.bare.name)) && decide (k.bare.nr = 0)) && decide (k.bare.part = 0)
theorem plain_right (k : Key) : k.plainB = k.right := by
  obtain ⟨kk, t, b, s, n, p⟩ := k
  have nil0 : nilS [] = true := rfl
  have z0 : decide ((0 : Nat) = 0) = true := rfl
  have z0i : decide ((0 : Int) = 0) = true := rfl
  unfold Key.plainB Key.right Key.bok Key.bare
  simp only
  rcases kinds kk with rfl | rfl | rfl | rfl | rfl | hk
  · have a : decide ((0 : Int) < 1) = true := rfl
    have c : decide ((1 : Int) < 6) = true := rfl
    simp only [Int.reduceEq, or_self, ↓reduceIte, a, c]
    cases tenok t <;> cases nilS b <;> cases nilS s <;> cases decide (n = 0) <;> cases decide (p = 0) <;> rfl
  · have a : decide ((0 : Int) < 2) = true := rfl
    have c : decide ((2 : Int) < 6) = true := rfl
    simp only [Int.reduceEq, or_self, ↓reduceIte, a, c, nil0]
    cases tenok t <;> cases bnok b <;> cases nilS s <;> cases decide (n = 0) <;> cases decide (p = 0) <;> rfl
  · have a : decide ((0 : Int) < 3) = true := rfl
    have c : decide ((3 : Int) < 6) = true := rfl
    simp only [Int.reduceEq, or_self, true_or, ↓reduceIte, a, c, nil0, z0]
    cases tenok t <;> cases bnok b <;> cases keyok s <;> cases decide (p = 0) <;> rfl
  · have a : decide ((0 : Int) < 4) = true := rfl
    have c : decide ((4 : Int) < 6) = true := rfl
    simp only [Int.reduceEq, or_self, true_or, or_true, ↓reduceIte, a, c, nil0, z0, false_or, or_false]
    cases tenok t <;> cases bnok b <;> cases nilS s <;> cases decide (p = 0) <;> rfl
  · have a : decide ((0 : Int) < 5) = true := rfl
    have c : decide ((5 : Int) < 6) = true := rfl
    simp only [Int.reduceEq, or_self, true_or, or_true, ↓reduceIte, a, c, nil0, z0, z0i, false_or, or_false]
    cases tenok t <;> cases bnok b <;> cases nilS s <;> cases decide (1 ≤ p) <;> cases decide (p ≤ 16) <;> rfl
  · have h : (decide (0 < kk) && decide (kk < 6)) = false := by
      rcases hk with hk | hk
      · rw [decide_eq_false (show ¬ 0 < kk by omega)]; rfl
      · rw [decide_eq_false (show ¬ kk < 6 by omega), Bool.and_false]
    rw [if_neg (show ¬ kk = 1 by omega), if_neg (show ¬ kk = 3 by omega), if_neg (show ¬ kk = 5 by omega)]
    rw [Bool.and_assoc (tenok t && bnok b), h]
    simp only [Bool.and_false, Bool.false_and]
    rw [if_neg (show ¬ kk = 1 by omega), if_neg (show ¬ kk = 2 by omega), if_neg (show ¬ kk = 3 by omega), if_neg (show ¬ kk = 4 by omega), if_neg (show ¬ kk = 5 by omega), Bool.and_false]

theorem U70 (k : Int) (t : Int) (b : List UInt8) (s : List UInt8) (n : Nat) (p : Int) (H : AHeap) : AC A 70 [.agg [.int .i64 k, .int .i64 t, .str b, .str s, .int .u64 (n : Int), .int .i64 p]] H = some (.int .i64 (chk (Key.right ⟨k, t, b, s, n, p⟩)), H) := by
  refine one_val (x := ReFns.c70) rfl rfl rfl rfl rfl ?_ H
  have u113 := U113 k t b s n p
  have hr := plain_right ⟨k, t, b, s, n, p⟩
  rw [← hr]
  unfold Key.plainB nilS
  have hbk : (Key.bare ⟨k, t, b, s, n, p⟩).kind = k := rfl
  have hbt : (Key.bare ⟨k, t, b, s, n, p⟩).ten = t := rfl
  generalize Key.bok ⟨k, t, b, s, n, p⟩ = O at *
  obtain ⟨k', t', b', s', n', p', hB⟩ : ∃ k' t' b' s' n' p', Key.bare ⟨k, t, b, s, n, p⟩ = ⟨k', t', b', s', n', p'⟩ := ⟨_, _, _, _, _, _, rfl⟩
  rw [hB] at u113 hbk hbt ⊢
  simp only at hbk hbt
  subst hbk hbt
  simp only [Key.cells] at u113
  simp only
  have hn := n0 n'
  have h6 : decide (6 ≤ k') = !decide (k' < 6) := by rw [Bool.eq_iff_iff]; simp
  have h0 : decide (k' ≤ 0) = !decide (0 < k') := by rw [Bool.eq_iff_iff]; simp
  cases O <;> cases d1 : decide (0 < k') <;> cases d2 : decide (k' < 6) <;> cases d3 : decide (b' = []) <;> cases d4 : decide (s' = []) <;> cases d5 : decide (n' = 0) <;> cases d6 : decide (p' = 0) <;> rw [d5] at hn <;> simp only [c70, u113, h0, h6, d1, d2, lbe, ibe, di, d3, d4, hn, d6, Bool.and_self, Bool.true_and, Bool.false_and, Bool.and_false, rwA, rwB, Nat.reduceAdd, Nat.reduceMul, Nat.reduceLeDiff, Int.reduceEq, Int.reduceLT, Int.reduceLE, Int.reduceAdd, Int.reduceSub, Int.reduceMul, ↓reduceIte, Nat.reduceEqDiff, reduceCtorEq, ↓cnd_true, ↓cnd_false] <;> rfl

theorem sl1 : abounds 6 6 (some (.int .i64 1)) (some (.int .i64 2)) none = some (1, 2, 6) := by kernel_rfl
theorem sl2 : abounds 6 6 (some (.int .i64 2)) (some (.int .i64 3)) none = some (2, 3, 6) := by kernel_rfl
theorem sl3 : abounds 6 6 (some (.int .i64 3)) (some (.int .i64 4)) none = some (3, 4, 6) := by kernel_rfl
theorem sl4 : abounds 6 6 (some (.int .i64 4)) (some (.int .i64 5)) none = some (4, 5, 6) := by kernel_rfl
theorem sl5 : abounds 6 6 (some (.int .i64 5)) (some (.int .i64 6)) none = some (5, 6, 6) := by kernel_rfl
theorem rl1 : abounds 5 5 (some (.int .i64 0)) (some (.int .i64 1)) none = some (0, 1, 5) := by kernel_rfl
theorem rl2 : abounds 5 5 (some (.int .i64 1)) (some (.int .i64 2)) none = some (1, 2, 5) := by kernel_rfl
theorem rl3 : abounds 5 5 (some (.int .i64 2)) (some (.int .i64 3)) none = some (2, 3, 5) := by kernel_rfl
theorem rl4 : abounds 5 5 (some (.int .i64 3)) (some (.int .i64 4)) none = some (3, 4, 5) := by kernel_rfl
theorem rl5 : abounds 5 5 (some (.int .i64 4)) (some (.int .i64 5)) none = some (4, 5, 5) := by kernel_rfl
theorem wl0 : IntKind.i64.wrap 0 = 0 := by decide
theorem wl1 : IntKind.i64.wrap 1 = 1 := by decide
theorem wl2 : IntKind.i64.wrap 2 = 2 := by decide
theorem wl3 : IntKind.i64.wrap 3 = 3 := by decide
theorem wl4 : IntKind.i64.wrap 4 = 4 := by decide
theorem wl5 : IntKind.i64.wrap 5 = 5 := by decide
theorem wl6 : IntKind.i64.wrap 6 = 6 := by decide

theorem front_len (k t : Int) : (front k t).length = 2 := by unfold front; rw [List.length_cons, len1]
theorem cat1 (c : UInt8) (n : Nat) : abin .add (.str [c]) (.str (num 1 n)) = some (.str (c :: num 1 n)) := b_cat _ _ (by rw [len1]; simp)
theorem U108 (k t : Int) (hk : 1 ≤ k ∧ k ≤ 5) (H : AHeap) : AC A 108 [.int .i64 k, .int .i64 t] H = some (.str (front k t), H) := by
  refine one_val (x := ReFns.c108) rfl rfl rfl rfl rfl ?_ H
  have hk : k = 1 ∨ k = 2 ∨ k = 3 ∨ k = 4 ∨ k = 5 := by omega
  unfold front letter
  rcases hk with rfl | rfl | rfl | rfl | rfl <;> simp only [c108, wu, U21, wl2, wl3, wl4, wl5, wl6, sl1, sl2, sl3, sl4, sl5, cat1, rwA, rwB, Nat.reduceAdd, Nat.reduceMul, Nat.reduceLeDiff, Int.reduceEq, Int.reduceLT, Int.reduceLE, Int.reduceAdd, Int.reduceSub, Int.reduceMul, ↓reduceIte, Nat.reduceEqDiff, reduceCtorEq, ↓cnd_true, ↓cnd_false]

/-- What is so of the lengths of a right key. -/
theorem right_is' {k : Key} (h : k.right = true) : (1 ≤ k.kind ∧ k.kind ≤ 5) ∧ k.bucket.length ≤ 12 ∧ k.name.length ≤ 24 ∧ (0 ≤ k.ten ∧ k.ten < 8) ∧ (k.kind = 5 → 1 ≤ k.part ∧ k.part ≤ 16) := by
  obtain ⟨kk, t, b, s, n, p⟩ := k
  have hb : bnok b = true → b.length ≤ 12 := by
    unfold bnok; intro h; simp only [Bool.and_eq_true, decide_eq_true_eq] at h; exact h.1.1.2
  have hs : keyok s = true → s.length ≤ 24 := by
    unfold keyok preok; intro h; simp only [Bool.and_eq_true, decide_eq_true_eq] at h; exact h.2.1
  have hnil : ∀ x : List UInt8, nilS x = true → x.length = 0 := by
    intro x; unfold nilS; intro h; rw [of_decide_eq_true h]; rfl
  unfold Key.right tenok at h
  simp only at h ⊢
  rcases kinds kk with rfl | rfl | rfl | rfl | rfl | hk
  · simp only [Int.reduceEq, ↓reduceIte, Bool.and_eq_true, decide_eq_true_eq] at h
    exact ⟨by omega, by have := hnil _ h.2.1.1.1; omega, by have := hnil _ h.2.1.1.2; omega, h.1, by omega⟩
  · simp only [Int.reduceEq, ↓reduceIte, Bool.and_eq_true, decide_eq_true_eq] at h
    exact ⟨by omega, hb h.2.1, by have := hnil _ h.2.2.1.1; omega, h.1, by omega⟩
  · simp only [Int.reduceEq, ↓reduceIte, Bool.and_eq_true, decide_eq_true_eq] at h
    exact ⟨by omega, hb h.2.1, hs h.2.2.1, h.1, by omega⟩
  · simp only [Int.reduceEq, ↓reduceIte, Bool.and_eq_true, decide_eq_true_eq] at h
    exact ⟨by omega, hb h.2.1, by have := hnil _ h.2.2.1; omega, h.1, by omega⟩
  · simp only [Int.reduceEq, ↓reduceIte, Bool.and_eq_true, decide_eq_true_eq] at h
    exact ⟨by omega, hb h.2.1, by have := hnil _ h.2.2.2; omega, h.1, fun _ => h.2.2.1⟩
  · rw [if_neg (by omega), if_neg (by omega), if_neg (by omega), if_neg (by omega), if_neg (by omega), Bool.and_false] at h
    cases h

theorem catS (a b : List UInt8) (h : a.length + b.length ≤ 9223372036854775807) : abin .add (.str a) (.str b) = some (.str (a ++ b)) := b_cat a b h
theorem cat0 (b : List UInt8) (h : b.length ≤ 1000) : abin .add (.str [0]) (.str b) = some (.str (0 :: b)) := b_cat [0] b (by simp; omega)

theorem U65 (k t : Int) (b s : List UInt8) (n : Nat) (p : Int) (hn : n < 18446744073709551616) (H : AHeap) : AC A 65 [.agg [.int .i64 k, .int .i64 t, .str b, .str s, .int .u64 (n : Int), .int .i64 p]] H = some (.tuple [.str (sure (Key.right ⟨k, t, b, s, n, p⟩) (Key.bytes ⟨k, t, b, s, n, p⟩)), .int .i64 (chk (Key.right ⟨k, t, b, s, n, p⟩))], H) := by
  refine one_val (x := ReFns.c65) rfl rfl rfl rfl rfl ?_ H
  have u70 := U70 k t b s n p
  cases hR : Key.right ⟨k, t, b, s, n, p⟩
  · rw [hR] at u70
    simp only [chk_f, sure_f] at u70 ⊢
    simp only [c65, u70, rwA, rwB, Nat.reduceAdd, Nat.reduceMul, Nat.reduceLeDiff, Int.reduceEq, Int.reduceLT, Int.reduceLE, Int.reduceAdd, Int.reduceSub, Int.reduceMul, ↓reduceIte, Nat.reduceEqDiff, reduceCtorEq, ↓cnd_true, ↓cnd_false]
  · obtain ⟨hk, hb, hs, ht, hp⟩ := right_is' hR
    simp only at hk hb hs ht hp
    rw [hR] at u70
    simp only [chk_t, sure_t] at u70 ⊢
    have u108 := U108 k t hk
    have lf := front_len k t
    have u24 := U24 n hn
    obtain ⟨F, hF⟩ : ∃ F, front k t = F := ⟨_, rfl⟩
    have c1 := catS F b (by rw [← hF, lf]; omega)
    unfold Key.bytes Key.tail
    simp only
    rw [hF] at u108 lf ⊢
    have hk5 : k = 1 ∨ k = 2 ∨ k = 3 ∨ k = 4 ∨ k = 5 := by omega
    obtain ⟨X, hX⟩ : ∃ X, num 8 (18446744073709551615 - n) = X := ⟨_, rfl⟩
    have lX : X.length = 8 := by rw [← hX, len8]
    obtain ⟨Y, hY⟩ : ∃ Y, num 8 n = Y := ⟨_, rfl⟩
    have lY : Y.length = 8 := by rw [← hY, len8]
    obtain ⟨Z, hZ⟩ : ∃ Z, num 1 (un p) = Z := ⟨_, rfl⟩
    have lZ : Z.length = 1 := by rw [← hZ, len1]
    have u23 := U23 n
    have u21 := U21 1 (un p)
    rw [hX] at u24 ⊢
    rw [hY] at u23 ⊢
    rw [hZ] at u21 ⊢
    have q1 := cat0 s (by omega)
    have q2 := catS (0 :: s) [0] (by simp; omega)
    have q3 := catS (0 :: s ++ [0]) X (by simp; omega)
    have q4 := catS (F ++ b) (0 :: s ++ [0] ++ X) (by simp; omega)
    have q5 := cat0 Y (by omega)
    have q6 := catS (F ++ b) (0 :: Y) (by simp; omega)
    have q7 := catS (0 :: Y) Z (by simp; omega)
    have q8 := catS (F ++ b) (0 :: Y ++ Z) (by simp; omega)
    simp only [List.cons_append] at q3 q4 q7 q8
    simp only [List.cons_append] at q2
    rcases hk5 with rfl | rfl | rfl | rfl | rfl
    · simp only [c65, u70, u108, c1, rwA, rwB, Nat.reduceAdd, Nat.reduceMul, Nat.reduceLeDiff, Int.reduceEq, Int.reduceLT, Int.reduceLE, Int.reduceAdd, Int.reduceSub, Int.reduceMul, ↓reduceIte, Nat.reduceEqDiff, reduceCtorEq, ↓cnd_true, ↓cnd_false]
    · simp only [c65, u70, u108, c1, rwA, rwB, Nat.reduceAdd, Nat.reduceMul, Nat.reduceLeDiff, Int.reduceEq, Int.reduceLT, Int.reduceLE, Int.reduceAdd, Int.reduceSub, Int.reduceMul, ↓reduceIte, Nat.reduceEqDiff, reduceCtorEq, ↓cnd_true, ↓cnd_false]
    · simp only [c65, u70, u108, c1, u24, q1, q2, q3, q4, rwA, rwB, Nat.reduceAdd, Nat.reduceMul, Nat.reduceLeDiff, Int.reduceEq, Int.reduceLT, Int.reduceLE, Int.reduceAdd, Int.reduceSub, Int.reduceMul, ↓reduceIte, Nat.reduceEqDiff, reduceCtorEq, ↓cnd_true, ↓cnd_false]
      simp
    · simp only [c65, u70, u108, c1, u23, q5, q6, rwA, rwB, Nat.reduceAdd, Nat.reduceMul, Nat.reduceLeDiff, Int.reduceEq, Int.reduceLT, Int.reduceLE, Int.reduceAdd, Int.reduceSub, Int.reduceMul, ↓reduceIte, Nat.reduceEqDiff, reduceCtorEq, ↓cnd_true, ↓cnd_false]
      simp
    · simp only [c65, u70, u108, c1, u23, wu, u21, q5, q7, q8, rwA, rwB, Nat.reduceAdd, Nat.reduceMul, Nat.reduceLeDiff, Int.reduceEq, Int.reduceLT, Int.reduceLE, Int.reduceAdd, Int.reduceSub, Int.reduceMul, ↓reduceIte, Nat.reduceEqDiff, reduceCtorEq, ↓cnd_true, ↓cnd_false]
      simp

end Go.Proofs.Ytmicohgachjcgaa.Re
