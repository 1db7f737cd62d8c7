/- The keys' chapter: in order. -/
import Derived.Test.YtmicohgachjcgaaKyc
set_option maxRecDepth 100000
set_option linter.unusedSimpArgs false
set_option linter.unusedVariables false
set_option maxHeartbeats 4000000
namespace Go.Proofs.Ytmicohgachjcgaa.Re
open Go Go.Proofs.Ytmicohgachjcgaa.Am ReFns Go.RowKit

theorem encl_succ (w n : Nat) : encl (w + 1) n = UInt8.ofNat (n / 256 ^ w) :: encl w n := by
  simp only [encl, List.range_succ_eq_map, List.map_cons, List.map_map, Nat.add_sub_cancel, Nat.sub_zero]
  congr 1
  apply List.map_congr_left
  intro j hj
  simp only [Function.comp]
  rw [show w - (j + 1) = w - 1 - j by omega]

theorem encl_less : ∀ (w n m : Nat), n / 256 ^ w = m / 256 ^ w → Op.bytesLess (encl w n) (encl w m) = decide (n < m)
  | 0, n, m, h => by
    simp at h
    subst h
    simp [encl, Op.bytesLess]
  | w + 1, n, m, h => by
    rw [encl_succ, encl_succ]
    simp only [Op.bytesLess]
    have hp : 0 < 256 ^ w := Nat.pow_pos (by decide)
    have hn : n / 256 ^ w = 256 * (n / 256 ^ (w + 1)) + n / 256 ^ w % 256 := by
      rw [Nat.pow_succ, ← Nat.div_div_eq_div_mul]; omega
    have hm : m / 256 ^ w = 256 * (m / 256 ^ (w + 1)) + m / 256 ^ w % 256 := by
      rw [Nat.pow_succ, ← Nat.div_div_eq_div_mul]; omega
    have a1 : (UInt8.ofNat (n / 256 ^ w)).toNat = n / 256 ^ w % 256 := by simp
    have a2 : (UInt8.ofNat (m / 256 ^ w)).toNat = m / 256 ^ w % 256 := by simp
    by_cases heq : n / 256 ^ w = m / 256 ^ w
    · rw [encl_less w n m heq, heq]
      have : ¬ (UInt8.ofNat (m / 256 ^ w) < UInt8.ofNat (m / 256 ^ w)) := UInt8.lt_irrefl _
      simp [this]
    · have hne : ¬ (UInt8.ofNat (n / 256 ^ w) = UInt8.ofNat (m / 256 ^ w)) := fun e => by
        have := congrArg UInt8.toNat e
        rw [a1, a2] at this
        omega
      have hlt : (UInt8.ofNat (n / 256 ^ w) < UInt8.ofNat (m / 256 ^ w)) ↔ n < m := by
        rw [UInt8.lt_iff_toNat_lt, a1, a2]
        constructor
        · intro hl
          have h1 : n / 256 ^ w < m / 256 ^ w := by omega
          rcases Nat.lt_or_ge n m with h2 | h2
          · exact h2
          · have := Nat.div_le_div_right (c := 256 ^ w) h2
            omega
        · intro hl
          have := Nat.div_le_div_right (c := 256 ^ w) (Nat.le_of_lt hl)
          omega
      have hb : (UInt8.ofNat (n / 256 ^ w) == UInt8.ofNat (m / 256 ^ w)) = false := by simpa using hne
      rw [hb, Bool.false_and, Bool.or_false, decide_eq_decide]
      exact hlt

theorem bl_same : ∀ (p x y : List UInt8), Op.bytesLess (p ++ x) (p ++ y) = Op.bytesLess x y
  | [], _, _ => rfl
  | c :: p, x, y => by
    have : ¬ c < c := UInt8.lt_irrefl _
    simp only [List.cons_append, Op.bytesLess, bl_same p x y, this, decide_false, Bool.false_or, beq_self_eq_true, Bool.true_and]
theorem bl_irr (x : List UInt8) : Op.bytesLess x x = false := by
  have := bl_same x [] []
  rw [List.append_nil] at this
  rw [this]; rfl
theorem bl_eqlen : ∀ (x y u v : List UInt8), x.length = y.length → Op.bytesLess (x ++ u) (y ++ v) = (Op.bytesLess x y || (decide (x = y) && Op.bytesLess u v))
  | [], [], u, v, _ => by simp [Op.bytesLess]
  | [], c :: y, u, v, h => by simp at h
  | c :: x, [], u, v, h => by simp at h
  | a :: x, b :: y, u, v, h => by
    have ih := bl_eqlen x y u v (by simpa using h)
    simp only [List.cons_append, Op.bytesLess, ih, List.cons.injEq]
    by_cases hab : a = b
    · subst hab
      have : ¬ a < a := UInt8.lt_irrefl _
      simp [this]
    · have hb : (a == b) = false := by simpa using hab
      simp [hb, hab]
theorem bl_zero : ∀ (x y u v : List UInt8), x.all (· != 0) = true → y.all (· != 0) = true → Op.bytesLess (x ++ 0 :: u) (y ++ 0 :: v) = (Op.bytesLess x y || (decide (x = y) && Op.bytesLess u v))
  | [], [], u, v, _, _ => by simp [Op.bytesLess]
  | [], c :: y, u, v, _, h => by
    simp only [List.all_cons, Bool.and_eq_true, bne_iff_ne, ne_eq] at h
    have : (0 : UInt8) < c := by
      rw [UInt8.lt_iff_toNat_lt]
      rcases Nat.eq_zero_or_pos c.toNat with h0 | h0
      · exact absurd (UInt8.toNat_inj.1 h0) h.1
      · exact h0
    simp [Op.bytesLess, this]
  | c :: x, [], u, v, h, _ => by
    simp only [List.all_cons, Bool.and_eq_true, bne_iff_ne, ne_eq] at h
    have : ¬ c < (0 : UInt8) := by rw [UInt8.lt_iff_toNat_lt]; simp
    simp [Op.bytesLess, this, h.1]
  | a :: x, b :: y, u, v, h1, h2 => by
    simp only [List.all_cons, Bool.and_eq_true] at h1 h2
    have ih := bl_zero x y u v h1.2 h2.2
    simp only [List.cons_append, Op.bytesLess, ih, List.cons.injEq]
    by_cases hab : a = b
    · subst hab
      have : ¬ a < a := UInt8.lt_irrefl _
      simp [this]
    · have hb : (a == b) = false := by simpa using hab
      simp [hb, hab]

theorem num_w' (w : Nat) (h : 1 ≤ w ∧ w ≤ 8) (n : Nat) : num (w : Int) n = encl w n := by
  unfold num; rw [if_pos (by omega), Int.toNat_natCast]
theorem bl_num8 (n m : Nat) (hn : n < 18446744073709551616) (hm : m < 18446744073709551616) : Op.bytesLess (num 8 n) (num 8 m) = decide (n < m) := by
  have e1 : num 8 n = encl 8 n := num_w' 8 (by omega) n
  have e2 : num 8 m = encl 8 m := num_w' 8 (by omega) m
  rw [e1, e2]
  refine encl_less 8 n m ?_
  rw [Nat.div_eq_of_lt (by exact hn), Nat.div_eq_of_lt (by exact hm)]
theorem bl_num1 (n m : Nat) (hn : n < 256) (hm : m < 256) : Op.bytesLess (num 1 n) (num 1 m) = decide (n < m) := by
  have e1 : num 1 n = encl 1 n := num_w' 1 (by omega) n
  have e2 : num 1 m = encl 1 m := num_w' 1 (by omega) m
  rw [e1, e2]
  refine encl_less 1 n m ?_
  rw [Nat.div_eq_of_lt (by exact hn), Nat.div_eq_of_lt (by exact hm)]
theorem num8_inj (n m : Nat) (hn : n < 18446744073709551616) (hm : m < 18446744073709551616) : decide (num 8 n = num 8 m) = decide (n = m) := by
  rw [decide_eq_decide]
  constructor
  · intro h
    have h1 := bl_num8 n m hn hm
    have h2 := bl_num8 m n hm hn
    rw [h, bl_irr] at h1
    rw [h, bl_irr] at h2
    have := of_decide_eq_false h1.symm
    have := of_decide_eq_false h2.symm
    omega
  · rintro rfl; rfl
theorem un_part {p : Int} (h : 1 ≤ p ∧ p ≤ 16) : un p = p.toNat := by
  unfold un
  simp [IntKind.wrap, IntKind.signed, IntKind.bits]
  omega

theorem keyok_all {s : List UInt8} (h : keyok s = true) : s.all (· != 0) = true := by
  unfold keyok preok at h
  simp only [Bool.and_eq_true] at h
  exact h.2.2
theorem right3 {t : Int} {b s : List UInt8} {n : Nat} {p : Int} (h : Key.right ⟨3, t, b, s, n, p⟩ = true) : keyok s = true ∧ p = 0 := by
  unfold Key.right at h
  simp only [Int.reduceEq, ↓reduceIte, Bool.and_eq_true, decide_eq_true_eq] at h
  exact ⟨h.2.2.1, h.2.2.2⟩
theorem right1 {t : Int} {b s : List UInt8} {n : Nat} {p : Int} (h : Key.right ⟨1, t, b, s, n, p⟩ = true) : b = [] ∧ s = [] ∧ n = 0 ∧ p = 0 := by
  unfold Key.right nilS at h
  simp only [↓reduceIte, Bool.and_eq_true, decide_eq_true_eq] at h
  exact ⟨h.2.1.1.1, h.2.1.1.2, h.2.1.2, h.2.2⟩

theorem bytes2 (t : Int) (b s : List UInt8) (n : Nat) (p : Int) : Key.bytes ⟨2, t, b, s, n, p⟩ = front 2 t ++ b := by
  unfold Key.bytes Key.tail; simp only [Int.reduceEq, ↓reduceIte, List.append_nil]
theorem bytes3 (t : Int) (b s : List UInt8) (n : Nat) (p : Int) : Key.bytes ⟨3, t, b, s, n, p⟩ = front 3 t ++ (b ++ 0 :: (s ++ 0 :: num 8 (18446744073709551615 - n))) := by
  unfold Key.bytes Key.tail; simp only [↓reduceIte]
theorem bytes4 (t : Int) (b s : List UInt8) (n : Nat) (p : Int) : Key.bytes ⟨4, t, b, s, n, p⟩ = front 4 t ++ (b ++ 0 :: num 8 n) := by
  unfold Key.bytes Key.tail; simp only [Int.reduceEq, ↓reduceIte]
theorem bytes5 (t : Int) (b s : List UInt8) (n : Nat) (p : Int) : Key.bytes ⟨5, t, b, s, n, p⟩ = front 5 t ++ (b ++ 0 :: (num 8 n ++ num 1 (un p))) := by
  unfold Key.bytes Key.tail; simp only [Int.reduceEq, ↓reduceIte]

theorem ord2 (t : Int) (b s b' s' : List UInt8) (n n' : Nat) (p p' : Int) : Op.bytesLess (Key.bytes ⟨2, t, b, s, n, p⟩) (Key.bytes ⟨2, t, b', s', n', p'⟩) = Op.bytesLess b b' := by
  rw [bytes2, bytes2, bl_same]
theorem ord3 (t : Int) (b s s' : List UInt8) (n n' : Nat) (p p' : Int) (hn : n < 18446744073709551616) (hn' : n' < 18446744073709551616) (h : keyok s = true) (h' : keyok s' = true) :
    Op.bytesLess (Key.bytes ⟨3, t, b, s, n, p⟩) (Key.bytes ⟨3, t, b, s', n', p'⟩) = (Op.bytesLess s s' || (decide (s = s') && decide (n' < n))) := by
  have e : ∀ u v : List UInt8, Op.bytesLess (0 :: u) (0 :: v) = Op.bytesLess u v := fun u v => bl_same [0] u v
  rw [bytes3, bytes3, bl_same, bl_same, e, bl_zero _ _ _ _ (keyok_all h) (keyok_all h'), bl_num8 _ _ (by omega) (by omega)]
  congr 2
  rw [decide_eq_decide]; omega
theorem ord4 (t : Int) (b s s' : List UInt8) (n n' : Nat) (p p' : Int) (hn : n < 18446744073709551616) (hn' : n' < 18446744073709551616) :
    Op.bytesLess (Key.bytes ⟨4, t, b, s, n, p⟩) (Key.bytes ⟨4, t, b, s', n', p'⟩) = decide (n < n') := by
  have e : ∀ u v : List UInt8, Op.bytesLess (0 :: u) (0 :: v) = Op.bytesLess u v := fun u v => bl_same [0] u v
  rw [bytes4, bytes4, bl_same, bl_same, e, bl_num8 _ _ hn hn']
theorem ord5 (t : Int) (b s s' : List UInt8) (n n' : Nat) (p p' : Int) (hn : n < 18446744073709551616) (hn' : n' < 18446744073709551616) (hp : 1 ≤ p ∧ p ≤ 16) (hp' : 1 ≤ p' ∧ p' ≤ 16) :
    Op.bytesLess (Key.bytes ⟨5, t, b, s, n, p⟩) (Key.bytes ⟨5, t, b, s', n', p'⟩) = (decide (n < n') || (decide (n = n') && decide (p < p'))) := by
  have e : ∀ u v : List UInt8, Op.bytesLess (0 :: u) (0 :: v) = Op.bytesLess u v := fun u v => bl_same [0] u v
  rw [bytes5, bytes5, bl_same, bl_same, e, bl_eqlen _ _ _ _ (by rw [len8, len8]), bl_num8 _ _ hn hn', num8_inj _ _ hn hn', un_part hp, un_part hp', bl_num1 _ _ (by omega) (by omega)]
  congr 2
  rw [decide_eq_decide]; omega

theorem U64_is : (arun (acall A 4000) 4000 (some ReFns.c64) [] noH).map (·.1) = some (.bool true) := by kernel_rfl
theorem U64 (H : AHeap) : AC A 64 [] H = some (.bool true, H) := one_closed (x := ReFns.c64) rfl rfl rfl rfl rfl U64_is H

theorem nlt (n m : Nat) : decide ((n : Int) < (m : Int)) = decide (n < m) := by rw [decide_eq_decide]; omega
theorem neq' (n m : Nat) : decide ((n : Int) = (m : Int)) = decide (n = m) := by rw [decide_eq_decide]; omega

theorem run13 (k t : Int) (b s : List UInt8) (n : Nat) (p : Int) (k2 t2 : Int) (b2 s2 : List UInt8) (n2 : Nat) (p2 : Int) (bk : List UInt8) (hn : n < 18446744073709551616) (hn2 : n2 < 18446744073709551616) (H : AHeap) :
    Ans (AC A 13 [.agg [.int .i64 k, .int .i64 t, .str b, .str s, .int .u64 (n : Int), .int .i64 p], .agg [.int .i64 k2, .int .i64 t2, .str b2, .str s2, .int .u64 (n2 : Int), .int .i64 p2], .str bk] H) (.bool true) := by
  rw [s_fn (A := A) (f := 13) (x := ReFns.c13) rfl rfl rfl]
  have db : ∀ x : Bool, (x == x) = true := fun x => by simp
  cases d2 : decide (k = 2)
  · have hk2 : k ≠ 2 := of_decide_eq_false d2
    have u66a := U66 k t bk s n p
    have u66b := U66 k t bk s2 n2 p2
    have u65a := U65 k t bk s n p hn
    have u65b := U65 k t bk s2 n2 p2 hn2
    cases R1 : Key.right ⟨k, t, bk, s, n, p⟩ <;> cases R2 : Key.right ⟨k, t, bk, s2, n2, p2⟩ <;> rw [R1] at u65a <;> rw [R2] at u65b
    · generalize Key.bytes ⟨k, t, bk, s, n, p⟩ = X at *
      generalize Key.bytes ⟨k, t, bk, s2, n2, p2⟩ = Y at *
      simp only [c13, U64, d2, u66a, u66b, u65a, u65b, chk_t, chk_f, rwA, rwB, Nat.reduceAdd, Nat.reduceMul, Nat.reduceLeDiff, Int.reduceEq, Int.reduceLT, Int.reduceLE, Int.reduceAdd, Int.reduceSub, Int.reduceMul, ↓reduceIte, Nat.reduceEqDiff, reduceCtorEq, ↓cnd_true, ↓cnd_false]
    · generalize Key.bytes ⟨k, t, bk, s, n, p⟩ = X at *
      generalize Key.bytes ⟨k, t, bk, s2, n2, p2⟩ = Y at *
      simp only [c13, U64, d2, u66a, u66b, u65a, u65b, chk_t, chk_f, rwA, rwB, Nat.reduceAdd, Nat.reduceMul, Nat.reduceLeDiff, Int.reduceEq, Int.reduceLT, Int.reduceLE, Int.reduceAdd, Int.reduceSub, Int.reduceMul, ↓reduceIte, Nat.reduceEqDiff, reduceCtorEq, ↓cnd_true, ↓cnd_false]
    · generalize Key.bytes ⟨k, t, bk, s, n, p⟩ = X at *
      generalize Key.bytes ⟨k, t, bk, s2, n2, p2⟩ = Y at *
      simp only [c13, U64, d2, u66a, u66b, u65a, u65b, chk_t, chk_f, rwA, rwB, Nat.reduceAdd, Nat.reduceMul, Nat.reduceLeDiff, Int.reduceEq, Int.reduceLT, Int.reduceLE, Int.reduceAdd, Int.reduceSub, Int.reduceMul, ↓reduceIte, Nat.reduceEqDiff, reduceCtorEq, ↓cnd_true, ↓cnd_false]
    · obtain ⟨hk, _, _, _, hp⟩ := right_is' R1
      obtain ⟨_, _, _, _, hp2⟩ := right_is' R2
      simp only at hk hp hp2
      have hkk : k = 1 ∨ k = 3 ∨ k = 4 ∨ k = 5 := by omega
      rcases hkk with rfl | rfl | rfl | rfl
      · obtain ⟨e1, e2, e3, e4⟩ := right1 R1
        obtain ⟨_, f2, f3, f4⟩ := right1 R2
        subst e2 e3 e4 f2 f3 f4
        have dl' : ∀ x : List UInt8, decide (x = x) = true := fun x => by simp
        generalize Key.bytes ⟨1, t, bk, [], 0, 0⟩ = X at *
        simp only [c13, U64, u66a, u66b, u65a, u65b, chk_t, sure_t, dl', rwA, rwB, Nat.reduceAdd, Nat.reduceMul, Nat.reduceLeDiff, Int.reduceEq, Int.reduceLT, Int.reduceLE, Int.reduceAdd, Int.reduceSub, Int.reduceMul, ↓reduceIte, Nat.reduceEqDiff, reduceCtorEq, ↓cnd_true, ↓cnd_false]
      · have ho := ord3 t bk s s2 n n2 p p2 hn hn2 (right3 R1).1 (right3 R2).1
        have hg := nlt n2 n
        generalize Key.bytes ⟨3, t, bk, s, n, p⟩ = X at *
        generalize Key.bytes ⟨3, t, bk, s2, n2, p2⟩ = Y at *
        generalize (n : Int) = n at *
        generalize (n2 : Int) = n2 at *
        cases o1 : Op.bytesLess s s2 <;> cases o2 : decide (s = s2) <;> rw [o1, o2] at ho <;> simp only [c13, U64, u66a, u66b, u65a, u65b, chk_t, sure_t, ho, hg, o1, o2, db, Bool.false_or, Bool.true_or, Bool.true_and, Bool.false_and, rwA, rwB, Nat.reduceAdd, Nat.reduceMul, Nat.reduceLeDiff, Int.reduceEq, Int.reduceLT, Int.reduceLE, Int.reduceAdd, Int.reduceSub, Int.reduceMul, ↓reduceIte, Nat.reduceEqDiff, reduceCtorEq, ↓cnd_true, ↓cnd_false]
      · have ho := ord4 t bk s s2 n n2 p p2 hn hn2
        have hg := nlt n n2
        generalize Key.bytes ⟨4, t, bk, s, n, p⟩ = X at *
        generalize Key.bytes ⟨4, t, bk, s2, n2, p2⟩ = Y at *
        generalize (n : Int) = n at *
        generalize (n2 : Int) = n2 at *
        simp only [c13, U64, u66a, u66b, u65a, u65b, chk_t, sure_t, ho, hg, db, rwA, rwB, Nat.reduceAdd, Nat.reduceMul, Nat.reduceLeDiff, Int.reduceEq, Int.reduceLT, Int.reduceLE, Int.reduceAdd, Int.reduceSub, Int.reduceMul, ↓reduceIte, Nat.reduceEqDiff, reduceCtorEq, ↓cnd_true, ↓cnd_false]
      · have ho := ord5 t bk s s2 n n2 p p2 hn hn2 (hp rfl) (hp2 rfl)
        have hg := nlt n n2
        have he := neq' n n2
        generalize Key.bytes ⟨5, t, bk, s, n, p⟩ = X at *
        generalize Key.bytes ⟨5, t, bk, s2, n2, p2⟩ = Y at *
        cases o1 : decide (n < n2) <;> cases o2 : decide (n = n2) <;> rw [o1, o2] at ho <;> rw [o1] at hg <;> rw [o2] at he <;>
          (clear o1 o2; generalize (n : Int) = n at *; generalize (n2 : Int) = n2 at *;
           simp only [c13, U64, u66a, u66b, u65a, u65b, chk_t, sure_t, ho, hg, he, db, Bool.false_or, Bool.true_or, Bool.true_and, Bool.false_and, rwA, rwB, Nat.reduceAdd, Nat.reduceMul, Nat.reduceLeDiff, Int.reduceEq, Int.reduceLT, Int.reduceLE, Int.reduceAdd, Int.reduceSub, Int.reduceMul, ↓reduceIte, Nat.reduceEqDiff, reduceCtorEq, ↓cnd_true, ↓cnd_false])
  · have hk2 : k = 2 := of_decide_eq_true d2
    subst hk2
    have u66a := U66 2 t b s n p
    have u66b := U66 2 t b2 s2 n2 p2
    have u65a := U65 2 t b s n p hn
    have u65b := U65 2 t b2 s2 n2 p2 hn2
    have ho := ord2 t b s b2 s2 n n2 p p2
    generalize Key.bytes ⟨2, t, b, s, n, p⟩ = X at *
    generalize Key.bytes ⟨2, t, b2, s2, n2, p2⟩ = Y at *
    cases R1 : Key.right ⟨2, t, b, s, n, p⟩ <;> cases R2 : Key.right ⟨2, t, b2, s2, n2, p2⟩ <;> rw [R1] at u65a <;> rw [R2] at u65b <;> simp only [c13, U64, u66a, u66b, u65a, u65b, chk_t, chk_f, sure_t, ho, db, rwA, rwB, Nat.reduceAdd, Nat.reduceMul, Nat.reduceLeDiff, Int.reduceEq, Int.reduceLT, Int.reduceLE, Int.reduceAdd, Int.reduceSub, Int.reduceMul, ↓reduceIte, Nat.reduceEqDiff, reduceCtorEq, ↓cnd_true, ↓cnd_false]

end Go.Proofs.Ytmicohgachjcgaa.Re
