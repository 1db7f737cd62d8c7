/- Floats of 64 bits: rungs, and rounding as a plain function of a fraction, with its laws. No program in sight. -/
import Ieee.Arith
set_option linter.unusedSimpArgs false
set_option linter.unusedVariables false
namespace Go.Proofs.Ytilhjcnkaelheaa.Am.Fl
open Ieee


theorem binade_eq : double.binade = 4503599627370496 := by decide
theorem inf_eq : double.infRung = 9218868437227405312 := by decide
theorem sw_eq : double.signWeight = 9223372036854775808 := by decide
theorem least_eq : double.leastPlace = -1074 := by decide
theorem fb_eq : double.fractionBits = 52 := rfl
theorem pow52 : (2:Nat) ^ 52 = 4503599627370496 := by decide

def sg (x : Nat) : Bool := x / 9223372036854775808 % 2 == 1
def rg (x : Nat) : Nat := x % 9223372036854775808
/-- A rung's magnitude, in the least units. -/
def u (r : Nat) : Nat := if r < 4503599627370496 then r else (4503599627370496 + r % 4503599627370496) * 2 ^ (r / 4503599627370496 - 1)

theorem read_inf {x : Nat} (h : rg x = 9218868437227405312) : double.read x = .infinity (sg x) := by
  unfold rg at h
  simp [Format.read, binade_eq, inf_eq, sw_eq, h, sg]

theorem read_nan {x : Nat} (h : 9218868437227405312 < rg x) : double.read x = .nan (sg x) (rg x - 9218868437227405312) := by
  unfold rg at h
  have h1 : ¬ x % 9223372036854775808 < 4503599627370496 := by omega
  have h2 : ¬ x % 9223372036854775808 < 9218868437227405312 := by omega
  have h3 : ¬ x % 9223372036854775808 = 9218868437227405312 := by omega
  simp only [Format.read, binade_eq, inf_eq, sw_eq, sg, rg, if_neg h1, if_neg h2, if_neg h3]

theorem read_num {x : Nat} (h : rg x < 9218868437227405312) : ∃ m p : Nat, double.read x = .number (sg x) m (-1074 + p) ∧ u (rg x) = m * 2 ^ p := by
  unfold rg at h
  by_cases h1 : x % 9223372036854775808 < 4503599627370496
  · refine ⟨x % 9223372036854775808, 0, ?_, ?_⟩
    · simp only [Format.read, binade_eq, inf_eq, sw_eq, sg, if_pos h1, least_eq]; rfl
    · simp [u, rg, h1]
  · refine ⟨4503599627370496 + x % 9223372036854775808 % 4503599627370496, x % 9223372036854775808 / 4503599627370496 - 1, ?_, ?_⟩
    · simp only [Format.read, binade_eq, inf_eq, sw_eq, sg, if_neg h1, if_pos h, least_eq]
    · show u (x % 9223372036854775808) = _
      unfold u; rw [if_neg h1]

/-! ### A rung's magnitude grows -/
theorem u_lt_succ (r : Nat) : u r < u (r + 1) := by
  unfold u
  by_cases h1 : r + 1 < 4503599627370496
  · rw [if_pos (by omega), if_pos h1]; omega
  · by_cases h2 : r < 4503599627370496
    · have : r + 1 = 4503599627370496 := by omega
      rw [if_pos h2, if_neg h1, this]
      simp; omega
    · rw [if_neg h2, if_neg h1]
      by_cases h3 : r % 4503599627370496 + 1 < 4503599627370496
      · have e1 : (r + 1) % 4503599627370496 = r % 4503599627370496 + 1 := by omega
        have e2 : (r + 1) / 4503599627370496 = r / 4503599627370496 := by omega
        rw [e1, e2]
        exact Nat.mul_lt_mul_of_pos_right (by omega) (Nat.two_pow_pos _)
      · have e1 : (r + 1) % 4503599627370496 = 0 := by omega
        have e2 : (r + 1) / 4503599627370496 = r / 4503599627370496 + 1 := by omega
        have e3 : r / 4503599627370496 ≥ 1 := by omega
        rw [e1, e2]
        have e4 : r / 4503599627370496 + 1 - 1 = (r / 4503599627370496 - 1) + 1 := by omega
        rw [e4, Nat.pow_succ]
        have := Nat.mul_lt_mul_of_pos_right (show 4503599627370496 + r % 4503599627370496 < 2 * 4503599627370496 by omega) (Nat.two_pow_pos (r / 4503599627370496 - 1))
        calc _ < 2 * 4503599627370496 * 2 ^ (r / 4503599627370496 - 1) := this
          _ = _ := by rw [Nat.add_zero, Nat.mul_comm 2 4503599627370496, Nat.mul_assoc, Nat.mul_comm 2]

theorem u_mono_lt : ∀ {r s : Nat}, r < s → u r < u s := by
  intro r s h
  induction s with
  | zero => omega
  | succ s ih =>
    by_cases hs : r = s
    · subst hs; exact u_lt_succ r
    · exact Nat.lt_trans (ih (by omega)) (u_lt_succ s)
theorem u_lt_iff {r s : Nat} : u r < u s ↔ r < s := by
  refine ⟨fun h => ?_, u_mono_lt⟩
  rcases Nat.lt_trichotomy r s with h' | h' | h'
  · exact h'
  · subst h'; omega
  · have := u_mono_lt h'; omega
theorem u_le_iff {r s : Nat} : u r ≤ u s ↔ r ≤ s := by
  have := @u_lt_iff s r
  omega
theorem u_inj {r s : Nat} (h : u r = u s) : r = s := by
  have := @u_lt_iff s r; have := @u_lt_iff r s; omega
theorem u_zero : u 0 = 0 := by simp [u]

/-! ### Order -/
/-- A rung with its sign. -/
def sr (x : Nat) : Int := if sg x then -(rg x : Int) else (rg x : Int)
def num (x : Nat) : Prop := rg x ≤ 9218868437227405312
instance (x : Nat) : Decidable (num x) := inferInstanceAs (Decidable (_ ≤ _))

theorem cmp_eq {a b c d : Int} (h1 : a < b ↔ c < d) (h2 : a = b ↔ c = d) : compare a b = compare c d := by
  simp only [compare, compareOfLessAndEq, h1, h2]

theorem cmp_scale (a b : Int) (k : Nat) (hk : 0 < k) : compare (a * k) (b * k) = compare a b := by
  have hk' : (0:Int) < k := by omega
  refine cmp_eq ⟨fun h => Int.lt_of_mul_lt_mul_right h (by omega), fun h => Int.mul_lt_mul_of_pos_right h hk'⟩ ⟨fun h => Int.eq_of_mul_eq_mul_right (by omega) h, fun h => by rw [h]⟩

theorem signed_mul (s : Bool) (m k e : Nat) : signed s m (k + e) = signed s m k * (2 ^ e : Nat) := by
  unfold signed
  simp only [Nat.shiftLeft_eq, Nat.pow_add]
  split
  · push_cast; rw [Int.neg_mul, Int.mul_assoc]
  · push_cast; rw [Int.mul_assoc]

theorem order_num {x y : Nat} (hx : rg x < 9218868437227405312) (hy : rg y < 9218868437227405312) : double.order x y = some (compare (sr x) (sr y)) := by
  obtain ⟨m, p, hm, hu⟩ := read_num hx
  obtain ⟨n, q, hn, hv⟩ := read_num hy
  simp only [Format.order, hm, hn, Datum.order]
  congr 1
  have e1 : (-1074 + (p : Int) - min (-1074 + (p : Int)) (-1074 + (q : Int))).toNat = p - min p q := by omega
  have e2 : (-1074 + (q : Int) - min (-1074 + (p : Int)) (-1074 + (q : Int))).toNat = q - min p q := by omega
  rw [e1, e2, ← cmp_scale _ _ (2 ^ min p q) (Nat.two_pow_pos _), ← signed_mul, ← signed_mul]
  rw [show p - min p q + min p q = p by omega, show q - min p q + min p q = q by omega]
  have f1 : signed (sg x) m p = if sg x then -(u (rg x) : Int) else (u (rg x) : Int) := by
    simp only [signed, Nat.shiftLeft_eq, hu]
  have f2 : signed (sg y) n q = if sg y then -(u (rg y) : Int) else (u (rg y) : Int) := by
    simp only [signed, Nat.shiftLeft_eq, hv]
  rw [f1, f2]
  unfold sr
  have h1 := @u_lt_iff (rg x) (rg y)
  have h2 := @u_lt_iff (rg y) (rg x)
  have h0 : u (rg x) = 0 ↔ rg x = 0 := ⟨fun h => u_inj (h.trans u_zero.symm), fun h => by rw [h, u_zero]⟩
  have h0' : u (rg y) = 0 ↔ rg y = 0 := ⟨fun h => u_inj (h.trans u_zero.symm), fun h => by rw [h, u_zero]⟩
  refine cmp_eq ?_ ?_ <;> cases sg x <;> cases sg y <;> simp only [Bool.false_eq_true, if_true, if_false] <;> omega

theorem order_eq {x y : Nat} (hx : num x) (hy : num y) : double.order x y = some (compare (sr x) (sr y)) := by
  unfold num at hx hy
  rcases Nat.lt_or_eq_of_le hx with hx' | hx' <;> rcases Nat.lt_or_eq_of_le hy with hy' | hy'
  · exact order_num hx' hy'
  · obtain ⟨m, p, hm, hu⟩ := read_num hx'
    simp only [Format.order, hm, read_inf hy', Datum.order, sr, hy']
    cases sg y <;> cases sg x <;> simp only [Bool.false_eq_true, if_true, if_false, Option.some.injEq] <;> symm <;> simp only [compare, compareOfLessAndEq] <;> first | (rw [if_pos (by omega)]; done) | (rw [if_neg (by omega), if_neg (by omega)])
  · obtain ⟨m, p, hm, hu⟩ := read_num hy'
    simp only [Format.order, hm, read_inf hx', Datum.order, sr, hx']
    cases sg y <;> cases sg x <;> simp only [Bool.false_eq_true, if_true, if_false, Option.some.injEq] <;> symm <;> simp only [compare, compareOfLessAndEq] <;> first | (rw [if_pos (by omega)]; done) | (rw [if_neg (by omega), if_neg (by omega)])
  · simp only [Format.order, read_inf hx', read_inf hy', Datum.order, sr, hx', hy']
    cases sg y <;> cases sg x <;> simp [Bool.toNat] <;> decide

theorem order_nan {x y : Nat} (h : ¬ num x ∨ ¬ num y) : double.order x y = none := by
  unfold num at h
  unfold Format.order
  rcases h with h | h
  · rw [read_nan (by omega)]; rfl
  · rw [read_nan (x := y) (by omega)]
    cases double.read x <;> rfl


/-! ### Rounding a fraction, in the least units -/
/-- N / D as a whole number, to the nearest, between two the even one. -/
def rne (N D : Nat) : Nat := N / D + (if D < 2 * (N % D) ∨ (D = 2 * (N % D) ∧ N / D % 2 = 1) then 1 else 0)
/-- How many digits are dropped. -/
def dl (N D : Nat) : Nat := (N / D).log2 - 52
/-- The rung nearest to N / D. -/
def rn (N D : Nat) : Nat := min (dl N D * 4503599627370496 + rne N (D * 2 ^ dl N D)) 9218868437227405312

theorem rne_scale (N D k : Nat) (hk : 0 < k) : rne (N * k) (D * k) = rne N D := by
  unfold rne
  have e1 : N * k / (D * k) = N / D := Nat.mul_div_mul_right _ _ hk
  have e2 : N * k % (D * k) = N % D * k := Nat.mul_mod_mul_right _ _ _
  rw [e1, e2]
  have h1 : D * k < 2 * (N % D * k) ↔ D < 2 * (N % D) := by
    rw [← Nat.mul_assoc]; exact Nat.mul_lt_mul_right hk
  have h2 : D * k = 2 * (N % D * k) ↔ D = 2 * (N % D) := by
    rw [← Nat.mul_assoc]; exact Nat.mul_left_inj (by omega)
  simp only [h1, h2]
theorem dl_scale (N D k : Nat) (hk : 0 < k) : dl (N * k) (D * k) = dl N D := by
  unfold dl; rw [Nat.mul_div_mul_right _ _ hk]
theorem rn_scale (N D k : Nat) (hk : 0 < k) : rn (N * k) (D * k) = rn N D := by
  unfold rn
  rw [dl_scale _ _ _ hk, show D * k * 2 ^ dl N D = D * 2 ^ dl N D * k by rw [Nat.mul_right_comm], rne_scale _ _ _ hk]

theorem rne_one (N : Nat) : rne N 1 = N := by simp [rne, Nat.mod_one]
theorem rne_exact (N D : Nat) (hD : 0 < D) : rne (N * D) D = N := by
  have := rne_scale N 1 D hD
  rw [Nat.one_mul] at this
  rw [this, rne_one]

/-- Rounding grows with the fraction. -/
theorem rne_mono {N D N' D' : Nat} (hD : 0 < D) (hD' : 0 < D') (h : N * D' ≤ N' * D) : rne N D ≤ rne N' D' := by
  -- to the same denominator
  rw [← rne_scale N D D' hD', ← rne_scale N' D' D hD, Nat.mul_comm D' D]
  generalize hE : D * D' = E
  have hEp : 0 < E := by rw [← hE]; exact Nat.mul_pos hD hD'
  generalize N * D' = a at *
  generalize N' * D = b at *
  unfold rne
  have ha := Nat.div_add_mod a E
  have hb := Nat.div_add_mod b E
  have ha' := Nat.mod_lt a hEp
  have hb' := Nat.mod_lt b hEp
  have hq : a / E ≤ b / E := Nat.div_le_div_right h
  rcases Nat.lt_or_eq_of_le hq with hlt | he
  · have : (if E < 2 * (a % E) ∨ (E = 2 * (a % E) ∧ a / E % 2 = 1) then 1 else 0) ≤ 1 := by split <;> omega
    omega
  · rw [he] at ha ⊢
    have hr : a % E ≤ b % E := by omega
    split <;> split <;> omega

theorem log2_mono {a b : Nat} (h : a ≤ b) : a.log2 ≤ b.log2 := by
  by_cases ha : a = 0
  · subst ha; simp
  · exact (Nat.le_log2 (by omega)).2 (Nat.le_trans (Nat.log2_self_le ha) h)
theorem dl_mono {N D N' D' : Nat} (hD : 0 < D) (hD' : 0 < D') (h : N * D' ≤ N' * D) : dl N D ≤ dl N' D' := by
  unfold dl
  have : N / D ≤ N' / D' := by
    rw [Nat.le_div_iff_mul_le hD']
    refine Nat.le_of_mul_le_mul_right ?_ hD
    calc N / D * D' * D = N / D * D * D' := by rw [Nat.mul_right_comm]
      _ ≤ N * D' := Nat.mul_le_mul_right _ (Nat.div_mul_le_self N D)
      _ ≤ N' * D := h
  have := log2_mono this
  omega

theorem two_split (k : Nat) (h : 52 ≤ k) : (2:Nat) ^ k = 4503599627370496 * 2 ^ (k - 52) := by
  conv => lhs; rw [show k = 52 + (k - 52) by omega, Nat.pow_add]

/-- What is kept has at most 53 digits, or is one above. -/
theorem rne_le {N D : Nat} : rne N (D * 2 ^ dl N D) ≤ 2 * 4503599627370496 := by
  have hq : N / (D * 2 ^ dl N D) < 2 * 4503599627370496 := by
    rw [← Nat.div_div_eq_div_mul, Nat.div_lt_iff_lt_mul (Nat.two_pow_pos _)]
    have h := @Nat.lt_log2_self (N / D)
    unfold dl
    by_cases hk : 52 ≤ (N / D).log2
    · rw [show (N / D).log2 + 1 = 1 + (N / D).log2 by omega, Nat.pow_add, two_split _ hk] at h
      calc _ < _ := h
        _ = _ := by rw [Nat.pow_one, Nat.mul_assoc]
    · have h1 : (N / D).log2 - 52 = 0 := by omega
      rw [h1]
      have : (2:Nat) ^ ((N / D).log2 + 1) ≤ 2 ^ 52 := Nat.pow_le_pow_right (by omega) (by omega)
      have h52 : (2:Nat) ^ 52 = 4503599627370496 := by decide
      omega
  unfold rne
  split <;> omega
theorem rne_ge {N D : Nat} (h : 0 < dl N D) : 4503599627370496 ≤ rne N (D * 2 ^ dl N D) := by
  have hq : 4503599627370496 ≤ N / (D * 2 ^ dl N D) := by
    rw [← Nat.div_div_eq_div_mul, Nat.le_div_iff_mul_le (Nat.two_pow_pos _)]
    unfold dl at h ⊢
    have h0 : N / D ≠ 0 := by intro h0; rw [h0] at h; simp at h
    have := Nat.log2_self_le h0
    rwa [two_split _ (by omega)] at this
  unfold rne
  omega

/-- Rounding to a rung grows with the fraction. -/
theorem rn_mono {N D N' D' : Nat} (hD : 0 < D) (hD' : 0 < D') (h : N * D' ≤ N' * D) : rn N D ≤ rn N' D' := by
  unfold rn
  have h1 := dl_mono hD hD' h
  rcases Nat.lt_or_eq_of_le h1 with hlt | he
  · have a1 := rne_le (N := N) (D := D)
    have a2 := rne_ge (N := N') (D := D') (by omega)
    have a3 : (dl N D + 1) * 4503599627370496 ≤ dl N' D' * 4503599627370496 := Nat.mul_le_mul_right _ (by omega)
    omega
  · rw [he]
    have : rne N (D * 2 ^ dl N' D') ≤ rne N' (D' * 2 ^ dl N' D') := by
      refine rne_mono (Nat.mul_pos hD (Nat.two_pow_pos _)) (Nat.mul_pos hD' (Nat.two_pow_pos _)) ?_
      rw [← Nat.mul_assoc, ← Nat.mul_assoc]
      exact Nat.mul_le_mul_right _ h
    omega
theorem rn_eq {N D N' D' : Nat} (hD : 0 < D) (hD' : 0 < D') (h : N * D' = N' * D) : rn N D = rn N' D' :=
  Nat.le_antisymm (rn_mono hD hD' (by omega)) (rn_mono hD' hD (by omega))
theorem rn_le_inf (N D : Nat) : rn N D ≤ 9218868437227405312 := Nat.min_le_right _ _
theorem rn_zero (D : Nat) : rn 0 D = 0 := by simp [rn, dl, rne]

theorem log2_eq {n k : Nat} (h1 : 2 ^ k ≤ n) (h2 : n < 2 ^ (k + 1)) : n.log2 = k := by
  have h0 : n ≠ 0 := by have := Nat.two_pow_pos k; omega
  have a : k ≤ n.log2 := (Nat.le_log2 h0).2 h1
  have b : n.log2 < k + 1 := (Nat.log2_lt h0).2 h2
  omega

/-- A rung's own magnitude has that rung. -/
theorem rn_u {r : Nat} (h : r ≤ 9218868437227405312) : rn (u r) 1 = r := by
  unfold rn dl
  rw [Nat.div_one, Nat.one_mul]
  by_cases h1 : r < 4503599627370496
  · have hu : u r = r := by simp [u, h1]
    rw [hu]
    have : r.log2 ≤ 51 := by
      by_cases h0 : r = 0
      · subst h0; simp
      · have : r.log2 < 52 := (Nat.log2_lt h0).2 (by rw [show (2:Nat) ^ 52 = 4503599627370496 by decide]; exact h1)
        omega
    rw [show r.log2 - 52 = 0 by omega, Nat.pow_zero, rne_one]
    omega
  · have hu : u r = (4503599627370496 + r % 4503599627370496) * 2 ^ (r / 4503599627370496 - 1) := by simp [u, h1]
    have hl : (u r).log2 = 52 + (r / 4503599627370496 - 1) := by
      refine log2_eq ?_ ?_
      · rw [hu, Nat.pow_add, show (2:Nat) ^ 52 = 4503599627370496 by decide]
        exact Nat.mul_le_mul_right _ (by omega)
      · rw [hu, show 52 + (r / 4503599627370496 - 1) + 1 = 53 + (r / 4503599627370496 - 1) by omega, Nat.pow_add]
        refine Nat.mul_lt_mul_of_pos_right ?_ (Nat.two_pow_pos _)
        have : (2:Nat) ^ 53 = 2 * 4503599627370496 := by decide
        omega
    rw [hl, show 52 + (r / 4503599627370496 - 1) - 52 = r / 4503599627370496 - 1 by omega, hu, rne_exact _ _ (Nat.two_pow_pos _)]
    omega


/-! ### The format's rounding is that -/
theorem kept_congr {a b c d : Nat} (h : c = d) : min (a + c) b = min (a + d) b := by rw [h]
theorem cut_eq (neg : Bool) (n drop : Nat) : Toward.even.cut neg n drop = rne n (2 ^ drop) := by
  unfold Toward.cut
  simp only [Nat.shiftLeft_eq, Nat.one_mul]
  by_cases h : drop ≤ n.log2 + 2
  · rw [Nat.min_eq_left h]
    unfold rne
    have hc : ((decide (2 ^ drop < 2 * (n % 2 ^ drop)) || (2 ^ drop == 2 * (n % 2 ^ drop) && n / 2 ^ drop % 2 == 1)) : Bool) = decide (2 ^ drop < 2 * (n % 2 ^ drop) ∨ (2 ^ drop = 2 * (n % 2 ^ drop) ∧ n / 2 ^ drop % 2 = 1)) := by
      rw [Bool.eq_iff_iff]; simp
    rw [hc]
    by_cases hk : (2 ^ drop < 2 * (n % 2 ^ drop) ∨ (2 ^ drop = 2 * (n % 2 ^ drop) ∧ n / 2 ^ drop % 2 = 1)) <;> simp [hk]
  · rw [Nat.min_eq_right (by omega)]
    have h1 : n < 2 ^ (n.log2 + 1) := Nat.lt_log2_self
    have h2 : 2 ^ (n.log2 + 2) = 2 * 2 ^ (n.log2 + 1) := by rw [Nat.pow_succ, Nat.mul_comm]
    have h3 : 2 ^ (n.log2 + 2) ≤ 2 ^ drop := Nat.pow_le_pow_right (by omega) (by omega)
    have a1 : n / 2 ^ (n.log2 + 2) = 0 := Nat.div_eq_of_lt (by omega)
    have a2 : n % 2 ^ (n.log2 + 2) = n := Nat.mod_eq_of_lt (by omega)
    have b1 : n / 2 ^ drop = 0 := Nat.div_eq_of_lt (by omega)
    have b2 : n % 2 ^ drop = n := Nat.mod_eq_of_lt (by omega)
    unfold rne
    rw [a1, a2, b1, b2, if_neg (by omega)]
    have : ¬ (2 ^ (n.log2 + 2) < 2 * n) := by omega
    simp [this]

theorem log2_shift {n : Nat} (k : Nat) (h : n ≠ 0) : (n * 2 ^ k).log2 = n.log2 + k := by
  refine log2_eq ?_ ?_
  · rw [Nat.pow_add]; exact Nat.mul_le_mul_right _ (Nat.log2_self_le h)
  · rw [show n.log2 + k + 1 = (n.log2 + 1) + k by omega, Nat.pow_add]; exact Nat.mul_lt_mul_of_pos_right Nat.lt_log2_self (Nat.two_pow_pos _)
theorem log2_unshift (n k : Nat) : (n / 2 ^ k).log2 = n.log2 - k := by
  by_cases h : n < 2 ^ k
  · rw [Nat.div_eq_of_lt h]
    by_cases h0 : n = 0
    · subst h0; simp
    · have : n.log2 < k := (Nat.log2_lt h0).2 h
      simp; omega
  · have h0 : n ≠ 0 := by have := Nat.two_pow_pos k; omega
    have hk : k ≤ n.log2 := (Nat.le_log2 h0).2 (by omega)
    refine log2_eq ?_ ?_
    · rw [Nat.le_div_iff_mul_le (Nat.two_pow_pos _), ← Nat.pow_add, Nat.sub_add_cancel hk]; exact Nat.log2_self_le h0
    · rw [Nat.div_lt_iff_lt_mul (Nat.two_pow_pos _), ← Nat.pow_add, show n.log2 - k + 1 + k = n.log2 + 1 by omega]; exact Nat.lt_log2_self

theorem nearest_eq (neg : Bool) (m : Nat) (e : Int) : double.nearest neg m (-1074 + e) = double.word neg (rn (m * 2 ^ e.toNat) (2 ^ (-e).toNat)) := by
  unfold Format.nearest
  by_cases h0 : m = 0
  · rw [if_pos h0, h0, Nat.zero_mul, rn_zero]
  · rw [if_neg h0]
    simp only [least_eq, fb_eq, binade_eq, inf_eq, cut_eq, Nat.shiftLeft_eq]
    refine congrArg (double.word neg) ?_
    -- the digits that are dropped
    have hL : dl (m * 2 ^ e.toNat) (2 ^ (-e).toNat) = (max (-1074 + e + (m.log2 : Int) - (52 : Nat)) (-1074) - -1074).toNat := by
      unfold dl
      by_cases he : 0 ≤ e
      · rw [show (-e).toNat = 0 by omega, Nat.pow_zero, Nat.div_one, log2_shift _ h0]; omega
      · rw [show e.toNat = 0 by omega, Nat.pow_zero, Nat.mul_one, log2_unshift]; omega
    unfold rn
    rw [hL]
    refine kept_congr ?_
    generalize hG : max (-1074 + e + (m.log2 : Int) - (52 : Nat)) (-1074) = last at *
    by_cases h1 : last ≤ -1074 + e
    · rw [show (last - (-1074 + e)).toNat = 0 by omega, show (-e).toNat = 0 by omega, Nat.pow_zero, Nat.one_mul, rne_one]
      rw [show e.toNat = (-1074 + e - last).toNat + (last - -1074).toNat by omega, Nat.pow_add, ← Nat.mul_assoc, rne_exact _ _ (Nat.two_pow_pos _)]
    · rw [show (-1074 + e - last).toNat = 0 by omega, Nat.pow_zero, Nat.mul_one]
      by_cases he : 0 ≤ e
      · rw [show (-e).toNat = 0 by omega, Nat.pow_zero, Nat.one_mul, show (last - -1074).toNat = (last - (-1074 + e)).toNat + e.toNat by omega, Nat.pow_add, rne_scale _ _ _ (Nat.two_pow_pos _)]
      · rw [show e.toNat = 0 by omega, Nat.pow_zero, Nat.mul_one, ← Nat.pow_add, show (last - (-1074 + e)).toNat = (-e).toNat + (last - -1074).toNat by omega]

theorem sg_word (neg : Bool) {r : Nat} (h : r < 9223372036854775808) : sg (double.word neg r) = neg := by
  unfold sg Format.word
  rw [sw_eq]
  cases neg
  · simp [Nat.div_eq_of_lt h]
  · have : (9223372036854775808 + r) / 9223372036854775808 = 1 := by omega
    rw [if_pos rfl, this]; rfl
theorem rg_word (neg : Bool) {r : Nat} (h : r < 9223372036854775808) : rg (double.word neg r) = r := by
  unfold rg Format.word
  rw [sw_eq]
  cases neg
  · simp [Nat.mod_eq_of_lt h]
  · simp only [if_true]; omega
theorem word_eq {x : Nat} (h : x < 2 * 9223372036854775808) : double.word (sg x) (rg x) = x := by
  unfold Format.word sg rg
  rw [sw_eq]
  by_cases h1 : x < 9223372036854775808
  · have : x / 9223372036854775808 = 0 := by omega
    simp [this]; omega
  · have : x / 9223372036854775808 = 1 := by omega
    simp [this]; omega

/-! ### A quotient that is told by its digits and whether anything is left -/
theorem half_sticky (A n h : Nat) (hn : 0 < n) (hh : 0 < h) : rne A (n * (2 * h)) = rne (2 * (A / n) + (A % n != 0).toNat) (2 * (2 * h)) := by
  generalize hst : (A % n != 0).toNat = st
  have hA := Nat.div_add_mod A n
  have hR := Nat.mod_lt A hn
  have hst' : (A % n = 0 ∧ st = 0) ∨ (0 < A % n ∧ st = 1) := by
    by_cases h0 : A % n = 0
    · left; refine ⟨h0, ?_⟩; rw [← hst, h0]; rfl
    · right; refine ⟨by omega, ?_⟩; rw [← hst]; simp [h0]
  generalize hQ : A / n = Q at *
  generalize hR' : A % n = R at *
  have hq := Nat.div_add_mod Q (2 * h)
  have hr := Nat.mod_lt Q (show 0 < 2 * h by omega)
  have eq1 : A / (n * (2 * h)) = Q / (2 * h) := by rw [← Nat.div_div_eq_div_mul, hQ]
  have eq2 : A % (n * (2 * h)) = Q % (2 * h) * n + R := by
    rw [Nat.mod_mul, hQ, hR', Nat.mul_comm, Nat.add_comm]
  have eq3 : (2 * Q + st) / (2 * (2 * h)) = Q / (2 * h) := by
    rw [← Nat.div_div_eq_div_mul, show (2 * Q + st) / 2 = Q by omega]
  have eq4 : (2 * Q + st) % (2 * (2 * h)) = 2 * (Q % (2 * h)) + st := by
    rw [Nat.mod_mul, show (2 * Q + st) / 2 = Q by omega]; omega
  unfold rne
  rw [eq1, eq2, eq3, eq4]
  generalize Q % (2 * h) = ρ at *
  generalize Q / (2 * h) = low at *
  have key : (n * (2 * h) < 2 * (ρ * n + R) ↔ 2 * (2 * h) < 2 * (2 * ρ + st)) ∧ (n * (2 * h) = 2 * (ρ * n + R) ↔ 2 * (2 * h) = 2 * (2 * ρ + st)) := by
    have e : n * (2 * h) = 2 * (h * n) := by rw [Nat.mul_comm, Nat.mul_assoc]
    rw [e]
    rcases Nat.lt_trichotomy ρ h with hl | he | hg
    · have : (ρ + 1) * n ≤ h * n := Nat.mul_le_mul_right _ (by omega)
      rw [Nat.add_mul] at this
      omega
    · subst he; omega
    · have : (h + 1) * n ≤ ρ * n := Nat.mul_le_mul_right _ (by omega)
      rw [Nat.add_mul] at this
      omega
  simp only [key.1, key.2]


theorem log2_pair {q : Nat} (Q : Nat) (hQ : Q ≠ 0) (e : Nat) (h1 : Q * 2 ^ e ≤ q) (h2 : q < (Q + 1) * 2 ^ e) : q.log2 = Q.log2 + e := by
  refine log2_eq ?_ ?_
  · rw [Nat.pow_add]; exact Nat.le_trans (Nat.mul_le_mul_right _ (Nat.log2_self_le hQ)) h1
  · rw [show Q.log2 + e + 1 = (Q.log2 + 1) + e by omega, Nat.pow_add]
    exact Nat.lt_of_lt_of_le h2 (Nat.mul_le_mul_right _ Nat.lt_log2_self)

/-- The rung of what a division writes. -/
theorem sticky_rn (A n : Nat) (hn : 0 < n) (hQ : 4503599627370496 * 2 ≤ A / n) (e : Int) :
    rn ((2 * (A / n) + (A % n != 0).toNat) * 2 ^ (e - 1).toNat) (2 ^ (-(e - 1)).toNat) = rn (A * 2 ^ e.toNat) (n * 2 ^ (-e).toNat) := by
  have hQ0 : A / n ≠ 0 := by omega
  have hl : 53 ≤ (A / n).log2 := (Nat.le_log2 hQ0).2 (by rw [show (2:Nat) ^ 53 = 4503599627370496 * 2 by decide]; exact hQ)
  have hst : (A % n != 0).toNat ≤ 1 := Bool.toNat_le _
  by_cases he : 0 < e
  · -- e > 0
    have e1 : (-(e - 1)).toNat = 0 := by omega
    have e2 : (-e).toNat = 0 := by omega
    have e3 : e.toNat = (e - 1).toNat + 1 := by omega
    generalize hk : (e - 1).toNat = k at *
    rw [e1, e2, e3, Nat.pow_zero, Nat.mul_one]
    have d1 : dl ((2 * (A / n) + (A % n != 0).toNat) * 2 ^ k) 1 = (A / n).log2 + (k + 1) - 52 := by
      unfold dl
      rw [Nat.div_one, log2_pair (A / n) hQ0 (k + 1)]
      · rw [Nat.pow_succ, Nat.mul_comm (2 ^ k) 2, ← Nat.mul_assoc]; exact Nat.mul_le_mul_right _ (by omega)
      · rw [Nat.pow_succ, Nat.mul_comm (2 ^ k) 2, ← Nat.mul_assoc]; exact Nat.mul_lt_mul_of_pos_right (by omega) (Nat.two_pow_pos _)
    have d2 : dl (A * 2 ^ (k + 1)) n = (A / n).log2 + (k + 1) - 52 := by
      unfold dl
      rw [log2_pair (A / n) hQ0 (k + 1)]
      · rw [Nat.le_div_iff_mul_le hn, Nat.mul_right_comm]; exact Nat.mul_le_mul_right _ (Nat.div_mul_le_self A n)
      · rw [Nat.div_lt_iff_lt_mul hn, Nat.mul_right_comm]; exact Nat.mul_lt_mul_of_pos_right (by have := Nat.lt_div_mul_add (a := A) hn; rw [Nat.add_mul, Nat.one_mul]; exact this) (Nat.two_pow_pos _)
    unfold rn
    rw [d1, d2]
    refine kept_congr ?_
    generalize hL : (A / n).log2 - 53 = L
    rw [show (A / n).log2 + (k + 1) - 52 = (L + 1) + (k + 1) by omega, Nat.one_mul, show n * 2 ^ (L + 1 + (k + 1)) = n * (2 * 2 ^ L) * 2 ^ (k + 1) by rw [Nat.pow_add, Nat.pow_succ 2 L, Nat.mul_comm (2 ^ L) 2, ← Nat.mul_assoc], rne_scale _ _ _ (Nat.two_pow_pos _),
      half_sticky A n (2 ^ L) hn (Nat.two_pow_pos _), show 2 ^ (L + 1 + (k + 1)) = 2 * (2 * 2 ^ L) * 2 ^ k by rw [show L + 1 + (k + 1) = 2 + L + k by omega, Nat.pow_add, Nat.pow_add, show (2:Nat) ^ 2 = 2 * 2 by decide, Nat.mul_assoc 2 2]; done, rne_scale _ _ _ (Nat.two_pow_pos _)]
  · -- e ≤ 0
    have e1 : (e - 1).toNat = 0 := by omega
    have e2 : e.toNat = 0 := by omega
    have e3 : (-(e - 1)).toNat = (-e).toNat + 1 := by omega
    generalize hk : (-e).toNat = k at *
    rw [e1, e2, e3, Nat.pow_zero, Nat.mul_one, Nat.mul_one]
    have d1 : dl (2 * (A / n) + (A % n != 0).toNat) (2 ^ (k + 1)) = (A / n).log2 - k - 52 := by
      unfold dl
      rw [Nat.pow_succ, Nat.mul_comm (2 ^ k) 2, ← Nat.div_div_eq_div_mul, show (2 * (A / n) + (A % n != 0).toNat) / 2 = A / n by omega, log2_unshift]
    have d2 : dl A (n * 2 ^ k) = (A / n).log2 - k - 52 := by
      unfold dl
      rw [← Nat.div_div_eq_div_mul, log2_unshift]
    unfold rn
    rw [d1, d2]
    refine kept_congr ?_
    generalize hL : k + ((A / n).log2 - k - 52) - 1 = L
    rw [Nat.mul_assoc n, ← Nat.pow_add, ← Nat.pow_add, show k + ((A / n).log2 - k - 52) = L + 1 by omega, Nat.pow_succ 2 L, Nat.mul_comm (2 ^ L) 2, half_sticky A n (2 ^ L) hn (Nat.two_pow_pos _),
      show k + 1 + ((A / n).log2 - k - 52) = L + 2 by omega, show 2 ^ (L + 2) = 2 * (2 * 2 ^ L) by rw [Nat.pow_add]; omega]


/-! ### What the operations give -/
theorem write_num (neg : Bool) (m : Nat) (e : Int) : double.write (.number neg m (-1074 + e)) = double.word neg (rn (m * 2 ^ e.toNat) (2 ^ (-e).toNat)) := nearest_eq neg m e

theorem some_word {b : Bool} {r r' : Nat} (h : r = r') : some (double.word b r) = some (double.word b r') := by rw [h]
/-- The place of the least units. -/
def pl : Nat := 1074
theorem pl_is : (pl : Int) = 1074 := rfl
def one : Nat := 2 ^ pl
theorem one_pos : 0 < one := Nat.two_pow_pos _
theorem one_is : one = 2 ^ pl := by unfold one; rfl

theorem ofInt_eq (n : Int) : double.write (.number (n < 0) n.natAbs 0) = double.word (decide (n < 0)) (rn (n.natAbs * one) 1) := by
  rw [one_is]
  have hp := pl_is
  have := write_num (decide (n < 0)) n.natAbs (pl : Int)
  rwa [show (-1074 : Int) + (pl : Int) = 0 by omega, Int.toNat_natCast, show (-(pl:Int)).toNat = 0 by omega, Nat.pow_zero] at this

theorem u_pos {r : Nat} (h : 0 < r) : 0 < u r := by rw [← u_zero]; exact u_lt_iff.2 h

theorem div_eq {x y : Nat} (hx : rg x < 9218868437227405312) (h0 : 0 < rg y) (hy : rg y < 9218868437227405312) :
    double.div x y = some (double.word (sg x ^^ sg y) (rn (u (rg x) * one) (u (rg y)))) := by
  have hpl := pl_is
  obtain ⟨m, p, hm, hu⟩ := read_num hx
  obtain ⟨n, q, hn, hv⟩ := read_num hy
  have hn0 : 0 < n := by
    rcases Nat.eq_zero_or_pos n with h | h
    · rw [h, Nat.zero_mul] at hv; have := u_pos h0; omega
    · exact h
  simp only [Format.div, hm, hn, Datum.quotient, if_neg (show ¬ n = 0 by omega), Option.map_some]
  rw [fb_eq]
  generalize hM : 52 + 2 + n.log2 - m.log2 = more
  rw [show (-1074 + (p : Int) - (-1074 + (q : Int)) - (more : Int) - 1) = -1074 + (((p : Int) - q - more + pl) - 1) by omega, write_num, Nat.shiftLeft_eq]
  refine some_word ?_
  by_cases hm0 : m = 0
  · rw [hm0] at hu ⊢
    simp only [Nat.zero_mul, Nat.zero_div, Nat.zero_mod] at hu ⊢
    rw [hu, Nat.zero_mul, rn_zero, show (2 * 0 + ((0 : Nat) != 0).toNat) = 0 from rfl, Nat.zero_mul, rn_zero]
  · have hQ : 4503599627370496 * 2 ≤ m * 2 ^ more / n := by
      rw [Nat.le_div_iff_mul_le hn0]
      have a1 : 2 ^ (m.log2 + more) ≤ m * 2 ^ more := by rw [Nat.pow_add]; exact Nat.mul_le_mul_right _ (Nat.log2_self_le hm0)
      have a2 : n < 2 ^ (n.log2 + 1) := Nat.lt_log2_self
      have a3 : 2 ^ (53 + (n.log2 + 1)) ≤ 2 ^ (m.log2 + more) := Nat.pow_le_pow_right (by omega) (by omega)
      rw [Nat.pow_add, show (2:Nat) ^ 53 = 4503599627370496 * 2 by decide] at a3
      have a4 := Nat.mul_le_mul_left (4503599627370496 * 2) (Nat.le_of_lt a2)
      exact Nat.le_trans a4 (Nat.le_trans a3 a1)
    rw [sticky_rn _ n hn0 hQ]
    refine rn_eq (Nat.mul_pos hn0 (Nat.two_pow_pos _)) (u_pos h0) ?_
    rw [hu, hv]
    generalize hE : (p : Int) - q - more + pl = E
    have hx : m * 2 ^ more * 2 ^ E.toNat * (n * 2 ^ q) = m * n * 2 ^ (more + E.toNat + q) := by
      simp only [Nat.pow_add, Nat.mul_assoc, Nat.mul_left_comm, Nat.mul_comm]
    have hy : m * 2 ^ p * one * (n * 2 ^ (-E).toNat) = m * n * 2 ^ (p + pl + (-E).toNat) := by
      rw [one_is]; simp only [Nat.pow_add, Nat.mul_assoc, Nat.mul_left_comm, Nat.mul_comm]
    rw [hx, hy, show more + E.toNat + q = p + pl + (-E).toNat by omega]

theorem mul_eq {x y : Nat} (hx : rg x < 9218868437227405312) (hy : rg y < 9218868437227405312) : double.mul x y = some (double.word (sg x ^^ sg y) (rn (u (rg x) * u (rg y)) one)) := by
  have hpl := pl_is
  obtain ⟨m, p, hm, hu⟩ := read_num hx
  obtain ⟨n, q, hn, hv⟩ := read_num hy
  simp only [Format.mul, hm, hn, Datum.product, Option.map_some]
  rw [show (-1074 + (p : Int) + (-1074 + (q : Int))) = -1074 + ((p : Int) + q - pl) by omega, write_num]
  refine some_word ?_
  refine rn_eq (Nat.two_pow_pos _) one_pos ?_
  rw [hu, hv, one_is]
  generalize hE : (p : Int) + q - pl = E
  have hx : m * n * 2 ^ E.toNat * 2 ^ pl = m * n * 2 ^ (E.toNat + pl) := by rw [Nat.pow_add, Nat.mul_assoc]
  have hy : m * 2 ^ p * (n * 2 ^ q) * 2 ^ (-E).toNat = m * n * 2 ^ (p + q + (-E).toNat) := by
    simp only [Nat.pow_add, Nat.mul_assoc, Nat.mul_left_comm, Nat.mul_comm]
  rw [hx, hy, show E.toNat + pl = p + q + (-E).toNat by omega]

/-- A number's value, in the least units. -/
def vl (x : Nat) : Int := if sg x then -(u (rg x) : Int) else (u (rg x) : Int)

theorem natAbs_mul_pow (a : Int) (k : Nat) : (a * (2 ^ k : Nat)).natAbs = a.natAbs * 2 ^ k := by
  rw [Int.natAbs_mul, Int.natAbs_natCast]

theorem add_eq {x y : Nat} (hx : rg x < 9218868437227405312) (hy : rg y < 9218868437227405312) :
    double.add x y = some (double.word (if vl x + vl y = 0 then sg x && sg y else decide (vl x + vl y < 0)) (rn (vl x + vl y).natAbs 1)) := by
  have hpl := pl_is
  obtain ⟨m, p, hm, hu⟩ := read_num hx
  obtain ⟨n, q, hn, hv⟩ := read_num hy
  simp only [Format.add, hm, hn, Datum.sum, Option.map_some]
  have e0 : min (-1074 + (p : Int)) (-1074 + (q : Int)) = -1074 + ((min p q : Nat) : Int) := by omega
  have e1 : (-1074 + (p : Int) - (-1074 + ((min p q : Nat) : Int))).toNat = p - min p q := by omega
  have e2 : (-1074 + (q : Int) - (-1074 + ((min p q : Nat) : Int))).toNat = q - min p q := by omega
  rw [e0, e1, e2, write_num]
  have f1 : signed (sg x) m p = vl x := by simp only [signed, Nat.shiftLeft_eq, vl, hu]
  have f2 : signed (sg y) n q = vl y := by simp only [signed, Nat.shiftLeft_eq, vl, hv]
  generalize hT : signed (sg x) m (p - min p q) + signed (sg y) n (q - min p q) = T
  have hTV : vl x + vl y = T * (2 ^ min p q : Nat) := by
    rw [← f1, ← f2, ← hT, Int.add_mul, ← signed_mul, ← signed_mul, show p - min p q + min p q = p by omega, show q - min p q + min p q = q by omega]
  have hk : (0 : Int) < (2 ^ min p q : Nat) := by have := Nat.two_pow_pos (min p q); omega
  have g1 : T * (2 ^ min p q : Nat) = 0 ↔ T = 0 := ⟨fun h => by rcases Int.mul_eq_zero.1 h with h | h <;> omega, fun h => by rw [h, Int.zero_mul]⟩
  have g2 : T * (2 ^ min p q : Nat) < 0 ↔ T < 0 := ⟨fun h => by
      rcases Decidable.em (T < 0) with h' | h'
      · exact h'
      · have := Int.mul_nonneg (show 0 ≤ T by omega) (Int.le_of_lt hk); omega,
    fun h => Int.mul_neg_of_neg_of_pos h hk⟩
  rw [hTV]
  simp only [g1, g2, natAbs_mul_pow, Int.toNat_natCast]
  rw [show (-((min p q : Nat) : Int)).toNat = 0 by omega, Nat.pow_zero]


/-- Towards nought, to a whole number. -/
theorem toInt_eq {x : Nat} (hx : rg x < 9218868437227405312) : (double.read x).toInt .zero = some (if sg x then -((u (rg x) / one : Nat) : Int) else ((u (rg x) / one : Nat) : Int)) := by
  have hpl := pl_is
  obtain ⟨m, p, hm, hu⟩ := read_num hx
  simp only [hm, Datum.toInt, Datum.integral, Toward.cut, signed, Bool.toNat_false, Nat.add_zero, Nat.shiftLeft_eq, Nat.one_mul, Nat.pow_zero, Nat.mul_one]
  have key : m * 2 ^ (-1074 + (p : Int)).toNat / 2 ^ min (-(-1074 + (p : Int))).toNat ((m * 2 ^ (-1074 + (p : Int)).toNat).log2 + 2) = u (rg x) / one := by
    rw [hu, one_is]
    generalize hN : m * 2 ^ (-1074 + (p : Int)).toNat = N
    have h1 : N / 2 ^ min (-(-1074 + (p : Int))).toNat (N.log2 + 2) = N / 2 ^ (-(-1074 + (p : Int))).toNat := by
      by_cases h : (-(-1074 + (p : Int))).toNat ≤ N.log2 + 2
      · rw [Nat.min_eq_left h]
      · rw [Nat.min_eq_right (by omega)]
        have a : N < 2 ^ (N.log2 + 1) := Nat.lt_log2_self
        have b1 : 2 ^ (N.log2 + 1) ≤ 2 ^ (N.log2 + 2) := Nat.pow_le_pow_right (by omega) (by omega)
        have b2 : 2 ^ (N.log2 + 1) ≤ 2 ^ (-(-1074 + (p : Int))).toNat := Nat.pow_le_pow_right (by omega) (by omega)
        rw [Nat.div_eq_of_lt (by omega), Nat.div_eq_of_lt (by omega)]
    rw [h1, ← hN]
    by_cases hp : p ≤ pl
    · rw [show (-1074 + (p : Int)).toNat = 0 by omega, Nat.pow_zero, Nat.mul_one, show (-(-1074 + (p : Int))).toNat = pl - p by omega]
      conv => rhs; rw [show pl = (pl - p) + p by omega, Nat.pow_add, Nat.mul_div_mul_right _ _ (Nat.two_pow_pos _)]
    · rw [show (-1074 + (p : Int)).toNat = p - pl by omega, show (-(-1074 + (p : Int))).toNat = 0 by omega, Nat.pow_zero, Nat.div_one]
      conv => rhs; rw [show p = (p - pl) + pl by omega, Nat.pow_add, ← Nat.mul_assoc, Nat.mul_div_cancel _ (Nat.two_pow_pos _)]
  rw [key]

end Go.Proofs.Ytilhjcnkaelheaa.Am.Fl
