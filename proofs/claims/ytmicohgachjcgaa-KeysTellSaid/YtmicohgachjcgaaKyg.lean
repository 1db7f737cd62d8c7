/- The keys' chapter: what a key begins with tells its kind, its tenant, its bucket, its name, its number. -/
import Derived.Test.YtmicohgachjcgaaKyf
set_option maxRecDepth 100000
set_option linter.unusedSimpArgs false
set_option linter.unusedVariables false
set_option maxHeartbeats 4000000
namespace Go.Proofs.Ytmicohgachjcgaa.Re
open Go Go.Proofs.Ytmicohgachjcgaa.Am ReFns Go.RowKit

theorem un_ten {t : Int} (h : tenok t = true) : un t = t.toNat ∧ un t < 8 := by
  unfold tenok at h
  simp only [Bool.and_eq_true, decide_eq_true_eq] at h
  unfold un
  simp [IntKind.wrap, IntKind.signed, IntKind.bits]
  omega
theorem num1 (n : Nat) : num 1 n = [UInt8.ofNat n] := by
  have e : num 1 n = encl 1 n := num_w' 1 (by omega) n
  rw [e, encl_succ]
  simp [encl]
theorem letter_eq {k k2 : Int} (h : 1 ≤ k ∧ k ≤ 5) (h2 : 1 ≤ k2 ∧ k2 ≤ 5) : (letter k == letter k2) = decide (k = k2) := by
  have hk : k = 1 ∨ k = 2 ∨ k = 3 ∨ k = 4 ∨ k = 5 := by omega
  have hk2 : k2 = 1 ∨ k2 = 2 ∨ k2 = 3 ∨ k2 = 4 ∨ k2 = 5 := by omega
  rcases hk with rfl | rfl | rfl | rfl | rfl <;> rcases hk2 with rfl | rfl | rfl | rfl | rfl <;> rfl
theorem pre_front {k k2 t t2 : Int} (hk : 1 ≤ k ∧ k ≤ 5) (hk2 : 1 ≤ k2 ∧ k2 ≤ 5) (ht : tenok t = true) (ht2 : tenok t2 = true) (x p : List UInt8) :
    (front k2 t2 ++ p).isPrefixOf (front k t ++ x) = ((decide (k = k2) && decide (t = t2)) && p.isPrefixOf x) := by
  unfold front
  rw [num1, num1]
  simp only [List.cons_append, List.nil_append, List.isPrefixOf]
  rw [letter_eq hk2 hk]
  have e : (UInt8.ofNat (un t2) == UInt8.ofNat (un t)) = decide (t = t2) := by
    have h1 := un_ten ht
    have h2 := un_ten ht2
    unfold tenok at ht ht2
    simp only [Bool.and_eq_true, decide_eq_true_eq] at ht ht2
    rw [Bool.eq_iff_iff, beq_iff_eq, decide_eq_true_eq]
    constructor
    · intro he
      have := congrArg UInt8.toNat he
      simp at this
      omega
    · rintro rfl; rfl
  rw [e, show decide (k2 = k) = decide (k = k2) by rw [decide_eq_decide]; exact eq_comm, Bool.and_assoc]

theorem pre_zero : ∀ (x y u v : List UInt8), x.all (· != 0) = true → y.all (· != 0) = true → (x ++ 0 :: u).isPrefixOf (y ++ 0 :: v) = (decide (y = x) && u.isPrefixOf v)
  | [], [], u, v, _, _ => by simp [List.isPrefixOf]
  | [], c :: y, u, v, _, h => by
    simp only [List.all_cons, Bool.and_eq_true, bne_iff_ne, ne_eq] at h
    have : ((0 : UInt8) == c) = false := by rw [beq_eq_false_iff_ne]; exact fun e => h.1 e.symm
    simp [List.isPrefixOf, this]
  | c :: x, [], u, v, h, _ => by
    simp only [List.all_cons, Bool.and_eq_true, bne_iff_ne, ne_eq] at h
    have : (c == (0 : UInt8)) = false := by rw [beq_eq_false_iff_ne]; exact h.1
    simp [List.isPrefixOf, this]
  | a :: x, b :: y, u, v, h1, h2 => by
    simp only [List.all_cons, Bool.and_eq_true] at h1 h2
    have ih := pre_zero x y u v h1.2 h2.2
    simp only [List.cons_append, List.isPrefixOf, ih, List.cons.injEq]
    by_cases hab : a = b
    · subst hab
      simp
    · have hb : (a == b) = false := by simpa using hab
      exact (by have hc : ¬ b = a := fun e => hab e.symm; simp [hb, hc])
theorem pre_eqlen : ∀ (x y v : List UInt8), x.length = y.length → x.isPrefixOf (y ++ v) = decide (y = x)
  | [], [], v, _ => by simp [List.isPrefixOf]
  | [], c :: y, v, h => by simp at h
  | c :: x, [], v, h => by simp at h
  | a :: x, b :: y, v, h => by
    have ih := pre_eqlen x y v (by simpa using h)
    simp only [List.cons_append, List.isPrefixOf, ih, List.cons.injEq]
    by_cases hab : a = b
    · subst hab
      simp
    · have hb : (a == b) = false := by simpa using hab
      exact (by have hc : ¬ b = a := fun e => hab e.symm; simp [hb, hc])
theorem pre_nil (x : List UInt8) : List.isPrefixOf [] x = true := by cases x <;> rfl

theorem beg_t (x p : List UInt8) (h : decide (p = []) = false) : beg x (sure true p) = p.isPrefixOf x := by
  unfold beg nilS; rw [sure_t, h]; rfl
theorem beg_f (x p : List UInt8) : beg x (sure false p) = false := by
  unfold beg nilS; rw [sure_f]; rfl

theorem right_ten {k : Key} (h : k.right = true) : tenok k.ten = true := by
  unfold Key.right at h
  simp only [Bool.and_eq_true] at h
  exact h.1
theorem right_bok {k : Key} (h : k.right = true) (hk : 3 ≤ k.kind) : bnok k.bucket = true := by
  have hk5 := (right_is' h).1.2
  unfold Key.right at h
  rw [if_neg (by omega), if_neg (by omega)] at h
  simp only [Bool.and_eq_true] at h
  have hh := h.2
  split at hh
  · simp only [Bool.and_eq_true] at hh; exact hh.1
  · split at hh
    · simp only [Bool.and_eq_true] at hh; exact hh.1
    · rw [if_pos (by omega)] at hh
      simp only [Bool.and_eq_true] at hh; exact hh.1

theorem begs2 (k : Key) (h : k.right = true) (t2 : Int) : beg k.bytes (bucketsp t2) = (decide (k.kind = 2) && decide (k.ten = t2)) := by
  have ht := right_ten h
  obtain ⟨hk, _⟩ := right_is' h
  unfold bucketsp Key.bytes
  cases d : tenok t2
  · rw [beg_f]
    have : decide (k.ten = t2) = false := by
      rw [decide_eq_false_iff_not]; rintro rfl; rw [ht] at d; cases d
    rw [this, Bool.and_false]
  · rw [beg_t _ _ (by have := front_nn 2 t2 []; rwa [List.append_nil] at this)]
    have := pre_front hk (by omega : 1 ≤ (2 : Int) ∧ (2 : Int) ≤ 5) ht d (k.bucket ++ k.tail) []
    rw [List.append_nil] at this
    rw [this, pre_nil, Bool.and_true]

/-- The tail of what holds a bucket and more. -/
def Key.rest (k : Key) : List UInt8 :=
  if k.kind = 3 then k.name ++ 0 :: num 8 (18446744073709551615 - k.nr)
  else if k.kind = 4 then num 8 k.nr
  else num 8 k.nr ++ num 1 (un k.part)
theorem tail_rest {k : Key} (h : k.right = true) (hk : 3 ≤ k.kind) : k.tail = 0 :: k.rest := by
  have hk5 := (right_is' h).1.2
  unfold Key.tail Key.rest
  by_cases h3 : k.kind = 3
  · rw [if_pos h3, if_pos h3]
  · rw [if_neg h3, if_neg h3]
    by_cases h4 : k.kind = 4
    · rw [if_pos h4, if_pos h4]
    · rw [if_neg h4, if_neg h4, if_pos (by omega)]

/-- What begins with a kind, a tenant and a bucket. -/
theorem pre_all (k : Key) (h : k.right = true) (k2 t2 : Int) (b2 p : List UInt8) (hk2 : 3 ≤ k2 ∧ k2 ≤ 5) (ht2 : tenok t2 = true) (hb2 : bnok b2 = true) :
    (front k2 t2 ++ (b2 ++ 0 :: p)).isPrefixOf k.bytes = (((decide (k.ten = t2) && decide (k.bucket = b2)) && decide (k.kind = k2)) && p.isPrefixOf k.rest) := by
  have ht := right_ten h
  obtain ⟨hk, _⟩ := right_is' h
  unfold Key.bytes
  rw [pre_front hk (by omega) ht ht2]
  by_cases he : k.kind = k2
  · rw [tail_rest h (by omega), pre_zero _ _ _ _ (bn_all hb2) (bn_all (right_bok h (by omega)))]
    rw [decide_eq_true he]
    cases decide (k.ten = t2) <;> cases decide (k.bucket = b2) <;> cases p.isPrefixOf k.rest <;> rfl
  · rw [decide_eq_false he]
    simp

theorem begs3 (k : Key) (h : k.right = true) (k2 t2 : Int) (b2 : List UInt8) (hk2 : 3 ≤ k2 ∧ k2 ≤ 5) : beg k.bytes (allp k2 t2 b2) = ((decide (k.ten = t2) && decide (k.bucket = b2)) && decide (k.kind = k2)) := by
  have ht := right_ten h
  unfold allp
  rw [decide_eq_true hk2.1, decide_eq_true (show k2 < 6 by omega)]
  simp only [Bool.true_and]
  cases d : tenok t2 && bnok b2
  · rw [beg_f]
    by_cases h1 : k.ten = t2
    · by_cases h2 : k.bucket = b2
      · by_cases h3 : k.kind = k2
        · have := right_bok h (by omega)
          rw [← h1, ← h2, ht, this] at d
          cases d
        · rw [decide_eq_false h3, Bool.and_false]
      · rw [decide_eq_false h2, Bool.and_false, Bool.false_and]
    · rw [decide_eq_false h1, Bool.false_and, Bool.false_and]
  · simp only [Bool.and_eq_true] at d
    rw [beg_t _ _ (front_nn _ _ _), pre_all k h k2 t2 b2 [] hk2 d.1 d.2, pre_nil, Bool.and_true]

theorem right3' {k : Key} (h : k.right = true) (hk : k.kind = 3) : keyok k.name = true := by
  obtain ⟨kk, t, b, s, n, p⟩ := k
  simp only at hk
  subst hk
  exact (right3 h).1

theorem begs4 (k : Key) (h : k.right = true) (t2 : Int) (b2 s2 : List UInt8) : beg k.bytes (chainp t2 b2 s2) = (((decide (k.ten = t2) && decide (k.bucket = b2)) && decide (k.kind = 3)) && decide (k.name = s2)) := by
  have ht := right_ten h
  unfold chainp
  cases d : (tenok t2 && bnok b2) && keyok s2
  · rw [beg_f]
    by_cases h1 : k.ten = t2
    · by_cases h2 : k.bucket = b2
      · by_cases h3 : k.kind = 3
        · by_cases h4 : k.name = s2
          · have := right_bok h (by omega)
            rw [← h1, ← h2, ← h4, ht, this, right3' h h3] at d
            cases d
          · rw [decide_eq_false h4, Bool.and_false]
        · rw [decide_eq_false h3, Bool.and_false, Bool.false_and]
      · rw [decide_eq_false h2, Bool.and_false, Bool.false_and, Bool.false_and]
    · rw [decide_eq_false h1, Bool.false_and, Bool.false_and, Bool.false_and]
  · simp only [Bool.and_eq_true] at d
    rw [beg_t _ _ (front_nn _ _ _), pre_all k h 3 t2 b2 (s2 ++ [0]) (by omega) d.1.1 d.1.2]
    by_cases h3 : k.kind = 3
    · have e : (s2 ++ [0]).isPrefixOf k.rest = decide (k.name = s2) := by
        unfold Key.rest
        rw [if_pos h3, pre_zero _ _ _ _ (keyok_all d.2) (keyok_all (right3' h h3)), pre_nil, Bool.and_true]
      rw [e]
    · rw [decide_eq_false h3]
      simp only [Bool.and_false, Bool.false_and]

theorem begs5 (k : Key) (h : k.right = true) (t2 : Int) (b2 : List UInt8) (n2 : Nat) (hn : k.nr < 18446744073709551616) (hn2 : n2 < 18446744073709551616) : beg k.bytes (piecep t2 b2 n2) = (((decide (k.ten = t2) && decide (k.bucket = b2)) && decide (k.kind = 5)) && decide (k.nr = n2)) := by
  have ht := right_ten h
  unfold piecep
  cases d : tenok t2 && bnok b2
  · rw [beg_f]
    by_cases h1 : k.ten = t2
    · by_cases h2 : k.bucket = b2
      · by_cases h3 : k.kind = 5
        · have := right_bok h (by omega)
          rw [← h1, ← h2, ht, this] at d
          cases d
        · rw [decide_eq_false h3, Bool.and_false, Bool.false_and]
      · rw [decide_eq_false h2, Bool.and_false, Bool.false_and, Bool.false_and]
    · rw [decide_eq_false h1, Bool.false_and, Bool.false_and, Bool.false_and]
  · simp only [Bool.and_eq_true] at d
    rw [beg_t _ _ (front_nn _ _ _), pre_all k h 5 t2 b2 (num 8 n2) (by omega) d.1 d.2]
    by_cases h3 : k.kind = 5
    · have e : (num 8 n2).isPrefixOf k.rest = decide (k.nr = n2) := by
        unfold Key.rest
        rw [if_neg (by omega), if_neg (by omega), pre_eqlen _ _ _ (by rw [len8, len8]), num8_inj _ _ hn hn2]
      rw [e]
    · rw [decide_eq_false h3]
      simp only [Bool.and_false, Bool.false_and]

end Go.Proofs.Ytmicohgachjcgaa.Re
