/- Floats of 64 bits: the order of all of them, and what is needed of sums, quotients and whole numbers. No program in sight. -/
import Derived.Test.YtfpbmoiconopcaaAmSym
set_option linter.unusedVariables false
set_option linter.unusedSimpArgs false
namespace Go.Proofs.Ytfpbmoiconopcaa.Am.Fl
open Go Ieee Go.Proofs.Ytfpbmoiconopcaa.Am

theorem cmp_lt (a b : Int) : (some (compare a b) == some .lt) = decide (a < b) := by
  rw [Bool.eq_iff_iff]
  simp only [compare, compareOfLessAndEq]
  split
  · simp_all
  · split <;> simp_all
theorem cmp_eq' (a b : Int) : (some (compare a b) == some .eq) = decide (a = b) := by
  rw [Bool.eq_iff_iff]
  simp only [compare, compareOfLessAndEq]
  split
  · simp_all; omega
  · split <;> simp_all
theorem cmp_gt (a b : Int) : (some (compare a b) == some .gt) = decide (b < a) := by
  rw [Bool.eq_iff_iff]
  simp only [compare, compareOfLessAndEq]
  split
  · simp_all; omega
  · split
    · simp_all
    · simp; omega

theorem feq_is (a b : Nat) : feq a b = decide (num a ∧ num b ∧ sr a = sr b) := by
  unfold feq
  by_cases h : num a ∧ num b
  · rw [order_eq h.1 h.2, cmp_eq']; simp [h.1, h.2]
  · rw [order_nan (by by_cases h1 : num a <;> simp_all)]
    symm; simp; intro h1 h2; exact absurd ⟨h1, h2⟩ h
theorem flss_is (a b : Nat) : flss a b = decide (num a ∧ num b ∧ sr a < sr b) := by
  unfold flss
  by_cases h : num a ∧ num b
  · rw [order_eq h.1 h.2, cmp_lt]; simp [h.1, h.2]
  · rw [order_nan (by by_cases h1 : num a <;> simp_all)]
    symm; simp; intro h1 h2; exact absurd ⟨h1, h2⟩ h
theorem fgtr_is (a b : Nat) : fgtr a b = decide (num a ∧ num b ∧ sr b < sr a) := by
  unfold fgtr
  by_cases h : num a ∧ num b
  · rw [order_eq h.1 h.2, cmp_gt]; simp [h.1, h.2]
  · rw [order_nan (by by_cases h1 : num a <;> simp_all)]
    symm; simp; intro h1 h2; exact absurd ⟨h1, h2⟩ h

/-- The place in the row of all floats: what is no number behind all others, -0 ahead of +0. -/
def ky (x : Nat) : Int := if num x then (if sg x then -(rg x : Int) - 1 else (rg x : Int)) else 9218868437227405313
/-- The kind. -/
def kd (x : Nat) : Int := if num x then (if rg x = 9218868437227405312 then (if sg x then 0 else 5) else if rg x = 0 then (if sg x then 2 else 3) else (if sg x then 1 else 4)) else 6

theorem kd_lt (a b : Nat) : (decide (kd a < kd b) || (decide (kd a = kd b) && flss a b)) = decide (ky a < ky b) := by
  rw [Bool.eq_iff_iff, flss_is]
  simp only [Bool.or_eq_true, Bool.and_eq_true, decide_eq_true_eq]
  unfold kd ky sr num
  by_cases ha : rg a ≤ 9218868437227405312 <;> by_cases hb : rg b ≤ 9218868437227405312 <;> simp only [ha, hb, if_true, if_false, true_and, false_and] <;> cases sg a <;> cases sg b <;> (try simp only [Bool.false_eq_true, if_true, if_false]) <;> (repeat' split) <;> first | omega | simp
theorem kd_mono {a b : Nat} (h : kd a < kd b) : ky a < ky b := by
  have := kd_lt a b
  simpa [h] using this
theorem ky_kd {a b : Nat} (h : ky a = ky b) : kd a = kd b := by
  rcases Int.lt_trichotomy (kd a) (kd b) with h1 | h1 | h1
  · have := kd_mono h1; omega
  · exact h1
  · have := kd_mono h1; omega

/-- Which one is ahead. -/
def ord (a b : Nat) : Int := if ky a < ky b then -1 else if ky b < ky a then 1 else 0
theorem ord_is (a b : Nat) : (if kd a < kd b then (-1 : Int) else if kd b < kd a then 1 else if flss a b then -1 else if fgtr a b then 1 else 0) = ord a b := by
  have h1 := kd_lt a b
  have h2 := kd_lt b a
  have h3 : fgtr a b = flss b a := by rw [fgtr_is, flss_is]; congr 1; rw [eq_iff_iff]; constructor <;> (rintro ⟨x, y, z⟩; exact ⟨y, x, z⟩)
  rw [h3]
  unfold ord
  have k1 := @kd_mono a b
  have k2 := @kd_mono b a
  have k3 := @ky_kd a b
  rw [Bool.eq_iff_iff] at h1 h2
  simp only [Bool.or_eq_true, Bool.and_eq_true, decide_eq_true_eq] at h1 h2
  by_cases c1 : kd a < kd b
  · simp [c1, k1 c1]
  · by_cases c2 : kd b < kd a
    · have := k2 c2
      rw [if_neg c1, if_pos c2, if_neg (by omega), if_pos this]
    · have c3 : kd a = kd b := by omega
      simp only [c3, Int.lt_irrefl, false_or, true_and] at h1 h2
      simp only [c3, Int.lt_irrefl, if_false, h1, h2]

theorem ord_range (a b : Nat) : -1 ≤ ord a b ∧ ord a b ≤ 1 := by unfold ord; split <;> (try split) <;> omega
theorem ord_neg (a b : Nat) : ord b a = - ord a b := by unfold ord; split <;> (try split) <;> (try split) <;> omega
theorem ord_self (a : Nat) : ord a a = 0 := by simp [ord]
theorem ord_zero (a b : Nat) : ord a b = 0 ↔ ky a = ky b := by unfold ord; split <;> (try split) <;> constructor <;> intro _ <;> omega
theorem ord_neg1 (a b : Nat) : ord a b = -1 ↔ ky a < ky b := by unfold ord; split <;> (try split) <;> constructor <;> intro _ <;> omega
theorem ord_le (a b : Nat) : ord a b ≤ 0 ↔ ky a ≤ ky b := by unfold ord; split <;> (try split) <;> constructor <;> intro _ <;> omega

/-! ### Words -/
theorem num_word (s : Bool) {r : Nat} (h : r ≤ 9218868437227405312) : num (double.word s r) := by
  unfold num; rw [rg_word s (by omega)]; exact h
theorem nan_not : ¬ num qnan := by decide

theorem rn_lt (N D : Nat) : rn N D < 9223372036854775808 := by have := rn_le_inf N D; omega

theorem fint_is (n : Int) : fint n = double.word (decide (n < 0)) (rn (n.natAbs * one) 1) := ofInt_eq n
theorem fint_num (n : Int) : num (fint n) := by rw [fint_is]; exact num_word _ (rn_le_inf _ _)
theorem fint_sg (n : Int) : sg (fint n) = decide (n < 0) := by rw [fint_is, sg_word _ (rn_lt _ _)]
theorem fint_rg (n : Int) : rg (fint n) = rn (n.natAbs * one) 1 := by rw [fint_is, rg_word _ (rn_lt _ _)]

/-- The place of infinity. -/
def im : Nat := 2046
def ia : Nat := 1024
theorem ia_is : ia = 1024 := rfl
def ip : Nat := 52 + im
theorem ip_is : ip = ia + pl := rfl
theorem u_inf : u 9218868437227405312 = 2 ^ ip := by
  unfold u
  rw [if_neg (by decide), show 9218868437227405312 % 4503599627370496 = 0 by decide, show 9218868437227405312 / 4503599627370496 - 1 = im by decide, Nat.add_zero, show (4503599627370496 : Nat) = 2 ^ 52 by decide, ← Nat.pow_add, ip]

/-- What has few digits is written as it is. -/
theorem u_rn {N : Nat} (h : N < 2 ^ ip) (hd : 2 ^ dl N 1 ∣ N) : u (rn N 1) = N ∧ rn N 1 < 9218868437227405312 := by
  have key : ∃ r, u r = N := by
    obtain ⟨k, hk⟩ := hd
    have hlog : ∀ d, dl N 1 = d → d = N.log2 - 52 := by intro d hd; rw [← hd]; simp [dl]
    generalize hdd : dl N 1 = d at hk
    have hl := hlog d hdd
    by_cases h0 : d = 0
    · rw [h0, Nat.pow_zero, Nat.one_mul] at hk
      subst hk
      by_cases hN : N < 4503599627370496
      · exact ⟨N, by simp [u, hN]⟩
      · have hlt : N < 2 ^ 53 := by
          have : N.log2 < 53 := by omega
          exact (Nat.log2_lt (by omega)).1 this
        rw [show (2:Nat) ^ 53 = 2 * 4503599627370496 by decide] at hlt
        refine ⟨N, ?_⟩
        unfold u
        rw [if_neg hN, show N / 4503599627370496 = 1 by omega, show N % 4503599627370496 = N - 4503599627370496 by omega]
        simp; omega
    · have hN0 : N ≠ 0 := by intro e; rw [e] at hl; simp at hl; omega
      have h1 := Nat.log2_self_le hN0
      have h2 := @Nat.lt_log2_self N
      rw [show N.log2 = 52 + d by omega, Nat.pow_add, hk, Nat.mul_comm (2 ^ d), show (2:Nat) ^ 52 = 4503599627370496 by decide] at h1
      rw [show N.log2 + 1 = 53 + d by omega, Nat.pow_add, hk, Nat.mul_comm (2 ^ d), show (2:Nat) ^ 53 = 2 * 4503599627370496 by decide] at h2
      have a1 := Nat.le_of_mul_le_mul_right h1 (Nat.two_pow_pos d)
      have a2 := Nat.lt_of_mul_lt_mul_right h2
      refine ⟨d * 4503599627370496 + k, ?_⟩
      unfold u
      have e1 : (d * 4503599627370496 + k) / 4503599627370496 = d + 1 := by omega
      have e2 : (d * 4503599627370496 + k) % 4503599627370496 = k - 4503599627370496 := by omega
      rw [if_neg (by omega), e1, e2, show 4503599627370496 + (k - 4503599627370496) = k by omega, hk, Nat.mul_comm]
      rfl
  obtain ⟨r, hr⟩ := key
  have hlt : r < 9218868437227405312 := by
    have := @u_lt_iff r 9218868437227405312
    rw [hr, u_inf] at this
    exact this.1 h
  rw [← hr, rn_u (by omega)]
  exact ⟨rfl, hlt⟩

theorem log2_one {n : Nat} (h : n ≠ 0) : (n * one).log2 = n.log2 + pl := by rw [one_is]; exact log2_shift _ h

/-- Whole numbers of at most 53 digits are floats. -/
theorem fint_u {n : Int} (h : n.natAbs < 9007199254740992) : u (rg (fint n)) = n.natAbs * one ∧ rg (fint n) < 9218868437227405312 := by
  rw [fint_rg]
  by_cases h0 : n.natAbs = 0
  · rw [h0, Nat.zero_mul, rn_zero, u_zero]; exact ⟨rfl, by omega⟩
  · have hle : n.natAbs.log2 ≤ 52 := by
      have : n.natAbs.log2 < 53 := (Nat.log2_lt h0).2 (Nat.lt_of_lt_of_le h (by decide))
      omega
    refine u_rn ?_ ?_
    · rw [one_is, ip_is, Nat.pow_add]
      refine Nat.mul_lt_mul_of_pos_right ?_ (Nat.two_pow_pos _)
      exact Nat.lt_trans h (Nat.lt_of_lt_of_le (show 9007199254740992 < 2 ^ 54 by decide) (Nat.pow_le_pow_right (by omega) (by have := ia_is; omega)))
    · rw [show dl (n.natAbs * one) 1 = n.natAbs.log2 + pl - 52 by rw [dl, Nat.div_one, log2_one h0]]
      rw [one_is]
      exact Nat.dvd_trans (Nat.pow_dvd_pow 2 (by omega)) (Nat.dvd_mul_left _ _)

theorem fint_mono {a b : Int} (h : a ≤ b) : sr (fint a) ≤ sr (fint b) := by
  unfold sr
  simp only [fint_sg, fint_rg]
  by_cases ha : a < 0 <;> by_cases hb : b < 0 <;> simp only [ha, hb, decide_true, decide_false, if_true, Bool.false_eq_true, if_false]
  · have := rn_mono (N := b.natAbs * one) (D := 1) (N' := a.natAbs * one) (D' := 1) (by omega) (by omega) (by
      rw [Nat.mul_one, Nat.mul_one]; exact Nat.mul_le_mul_right _ (by omega))
    omega
  · omega
  · omega
  · have := rn_mono (N := a.natAbs * one) (D := 1) (N' := b.natAbs * one) (D' := 1) (by omega) (by omega) (by
      rw [Nat.mul_one, Nat.mul_one]; exact Nat.mul_le_mul_right _ (by omega))
    omega

theorem fint_lt_inf {n : Int} (h : n.natAbs < 2 ^ 64) : rg (fint n) < 9218868437227405312 := by
  rw [fint_rg]
  have hm := rn_mono (N := n.natAbs * one) (D := 1) (N' := 2 ^ 64 * one) (D' := 1) (by omega) (by omega) (by
      rw [Nat.mul_one, Nat.mul_one]; exact Nat.mul_le_mul_right _ (by omega))
  have : rn (2 ^ 64 * one) 1 < 9218868437227405312 := by
    refine (u_rn ?_ ?_).2
    · rw [one_is, ← Nat.pow_add]; exact Nat.pow_lt_pow_right (by omega) (by have := ip_is; have := ia_is; omega)
    · rw [show dl (2 ^ 64 * one) 1 = (2 ^ 64 : Nat).log2 + pl - 52 by rw [dl, Nat.div_one, log2_one (by decide)]]
      rw [Nat.log2_two_pow, one_is, ← Nat.pow_add]
      exact Nat.pow_dvd_pow 2 (by omega)
  omega
theorem fint_zero : rg (fint 0) = 0 := by rw [fint_rg]; simp [rn_zero]
theorem fint_pos {n : Int} (h : 0 < n.natAbs) : 0 < rg (fint n) := by
  rw [fint_rg]
  have h1 := rn_mono (N := one) (D := 1) (N' := n.natAbs * one) (D' := 1) (by omega) (by omega) (by
      rw [Nat.mul_one, Nat.mul_one]; conv => lhs; rw [← Nat.one_mul one]
      exact Nat.mul_le_mul_right _ (by omega))
  have h2 := (fint_u (n := 1) (by decide)).1
  rw [fint_rg] at h2
  have h3 : 0 < rn ((1:Int).natAbs * one) 1 := by
    rcases Nat.eq_zero_or_pos (rn ((1:Int).natAbs * one) 1) with h | h
    · rw [h, u_zero] at h2; have := one_pos; simp at h2; omega
    · exact h
  have e : (1:Int).natAbs * one = one := by simp
  rw [e] at h3
  omega

end Go.Proofs.Ytfpbmoiconopcaa.Am.Fl
