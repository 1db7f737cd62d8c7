/- Floats of 64 bits: sums, differences, products, quotients by their parts. No program in sight. -/
import Derived.Test.YtfpbmoiconopcaaAmFl2
set_option linter.unusedVariables false
set_option linter.unusedSimpArgs false
namespace Go.Proofs.Ytfpbmoiconopcaa.Am.Fl
open Go Ieee Go.Proofs.Ytfpbmoiconopcaa.Am

theorem neg_rg (a : Nat) : rg (fneg a) = rg a := Go.Proofs.Ytfpbmoiconopcaa.Am.neg_rg a
theorem neg_sg (a : Nat) : sg (fneg a) = !sg a := by
  have e : fneg a = a ^^^ 2 ^ 63 := rfl
  have h : ∀ x, sg x = x.testBit 63 := by
    intro x
    unfold sg
    rw [Nat.testBit_eq_decide_div_mod_eq, show (9223372036854775808 : Nat) = 2 ^ 63 by decide]
    rfl
  rw [h, h, e, Nat.testBit_xor, Nat.testBit_two_pow_self]
  simp
theorem neg_num (a : Nat) : num (fneg a) ↔ num a := by unfold num; rw [neg_rg]
theorem neg_read (a : Nat) : double.read (fneg a) = (double.read a).opposite := by
  rcases Nat.lt_trichotomy (rg a) 9218868437227405312 with h | h | h
  · obtain ⟨m, p, e1, h1⟩ := read_num h
    unfold Format.read
    simp only [binade_eq, inf_eq, sw_eq, least_eq]
    have hs := neg_sg a
    have hr := neg_rg a
    unfold sg at hs
    unfold rg at hr h
    rw [hs, hr]
    split
    · rfl
    · first | rfl | (rw [if_pos h]; rfl)
  · rw [read_inf h, read_inf (by rw [neg_rg]; exact h), neg_sg]; rfl
  · rw [read_nan h, read_nan (by rw [neg_rg]; exact h), neg_sg, neg_rg]; rfl
theorem sub_add (a b : Nat) : fsub a b = fadd a (fneg b) := by
  unfold fsub fadd Format.sub Format.add
  rw [neg_read]
theorem neg_vl (a : Nat) : vl (fneg a) = - vl a := by
  unfold vl; rw [neg_sg, neg_rg]; cases sg a <;> simp
theorem sr_vl (x : Nat) : (0 ≤ sr x ↔ 0 ≤ vl x) := by
  unfold sr vl
  have := @u_lt_iff 0 (rg x)
  rw [u_zero] at this
  cases sg x <;> simp <;> omega
theorem vl_natAbs (x : Nat) : (vl x).natAbs = u (rg x) := by unfold vl; split <;> omega
theorem vl_zero {x : Nat} : vl x = 0 ↔ rg x = 0 := by
  have h := vl_natAbs x
  constructor
  · intro h0; rw [h0] at h; exact u_inj (h.symm.trans u_zero.symm)
  · intro h0; rw [h0, u_zero] at h; omega

theorem fadd_is {x y : Nat} (hx : rg x < 9218868437227405312) (hy : rg y < 9218868437227405312) : fadd x y = double.word (if vl x + vl y = 0 then sg x && sg y else decide (vl x + vl y < 0)) (rn (vl x + vl y).natAbs 1) := by
  unfold fadd; rw [add_eq hx hy]; rfl
theorem fmul_is {x y : Nat} (hx : rg x < 9218868437227405312) (hy : rg y < 9218868437227405312) : fmul x y = double.word (sg x ^^ sg y) (rn (u (rg x) * u (rg y)) one) := by
  unfold fmul; rw [mul_eq hx hy]; rfl
theorem fdiv_is {x y : Nat} (hx : rg x < 9218868437227405312) (h0 : 0 < rg y) (hy : rg y < 9218868437227405312) : fdiv x y = double.word (sg x ^^ sg y) (rn (u (rg x) * one) (u (rg y))) := by
  unfold fdiv; rw [div_eq hx h0 hy]; rfl
theorem u_ne {r : Nat} (h : 0 < r) : u r ≠ 0 := by have := u_pos h; omega
/-- By nought: infinity. -/
theorem fdiv_zero {x y : Nat} (hx : rg x ≤ 9218868437227405312) (h1 : 0 < rg x) (h0 : rg y = 0) : fdiv x y = double.word (sg x ^^ sg y) 9218868437227405312 := by
  unfold fdiv Format.div
  obtain ⟨n, q, hn, hv⟩ := read_num (x := y) (by omega)
  rw [h0, u_zero] at hv
  have hn0 : n = 0 := by
    rcases Nat.eq_zero_or_pos n with h | h
    · exact h
    · have := Nat.mul_pos h (Nat.two_pow_pos q); omega
  subst hn0
  rw [hn]
  rcases Nat.lt_or_eq_of_le hx with hx | hx
  · obtain ⟨m, p, hm, hu⟩ := read_num hx
    have hm0 : m ≠ 0 := by intro h; rw [h, Nat.zero_mul] at hu; exact u_ne h1 hu
    rw [hm]
    simp only [Datum.quotient, if_true, if_neg hm0, Option.map_some, Option.getD_some, Format.write, inf_eq]
  · rw [read_inf hx]
    simp only [Datum.quotient, Option.map_some, Option.getD_some, Format.write, inf_eq]
/-- Infinity by a finite one. -/
theorem fdiv_inf {x y : Nat} (hx : rg x = 9218868437227405312) (hy : rg y < 9218868437227405312) : fdiv x y = double.word (sg x ^^ sg y) 9218868437227405312 := by
  unfold fdiv Format.div
  obtain ⟨n, q, hn, hv⟩ := read_num hy
  rw [hn, read_inf hx]
  simp only [Datum.quotient, Option.map_some, Option.getD_some, Format.write, inf_eq]
theorem fadd_inf_r {x y : Nat} (hx : rg x < 9218868437227405312) (hy : rg y = 9218868437227405312) : fadd x y = double.word (sg y) 9218868437227405312 := by
  unfold fadd Format.add
  obtain ⟨n, q, hn, hv⟩ := read_num hx
  rw [hn, read_inf hy]
  simp only [Datum.sum, Option.map_some, Option.getD_some, Format.write, inf_eq]
theorem fadd_inf_l {x y : Nat} (hx : rg x = 9218868437227405312) (hy : rg y < 9218868437227405312) : fadd x y = double.word (sg x) 9218868437227405312 := by
  unfold fadd Format.add
  obtain ⟨n, q, hn, hv⟩ := read_num hy
  rw [hn, read_inf hx]
  simp only [Datum.sum, Option.map_some, Option.getD_some, Format.write, inf_eq]
/-- Infinity less itself is no number. -/
theorem fsub_inf {x : Nat} (hx : rg x = 9218868437227405312) : fsub x x = qnan := by
  unfold fsub Format.sub
  rw [read_inf hx]
  cases sg x <;> rfl
theorem fsub_nan {x y : Nat} (h : ¬ num x ∨ ¬ num y) : fsub x y = qnan := by unfold fsub; rw [sub_nan h]; rfl
theorem fadd_nan {x y : Nat} (h : ¬ num x ∨ ¬ num y) : fadd x y = qnan := by unfold fadd; rw [add_nan h]; rfl
theorem fmul_nan {x y : Nat} (h : ¬ num x ∨ ¬ num y) : fmul x y = qnan := by unfold fmul; rw [mul_nan h]; rfl
theorem fdiv_nan {x y : Nat} (h : ¬ num x ∨ ¬ num y) : fdiv x y = qnan := by unfold fdiv; rw [div_nan h]; rfl
theorem fsub_self {x : Nat} (hx : rg x < 9218868437227405312) : fsub x x = 0 := by
  rw [sub_add, fadd_is hx (by rw [neg_rg]; exact hx), neg_vl, neg_sg]
  simp only [Int.add_right_neg, if_true, Int.natAbs_zero, rn_zero]
  cases sg x <;> rfl

theorem feq_self (x : Nat) : feq x x = decide (num x) := by rw [feq_is]; simp
theorem rg_0 : rg 0 = 0 := rfl
theorem sg_0 : sg 0 = false := rfl
theorem fgtr_max (x : Nat) : fgtr x 9218868437227405311 = (decide (num x) && decide (rg x = 9218868437227405312) && !sg x) := by
  rw [fgtr_is, Bool.eq_iff_iff]
  have h1 : num 9218868437227405311 := by decide
  have h2 : sr 9218868437227405311 = 9218868437227405311 := by decide
  simp only [h1, h2, true_and, Bool.and_eq_true, decide_eq_true_eq, Bool.not_eq_true']
  unfold num sr
  cases sg x <;> simp <;> omega
theorem fgtr_nmax (x : Nat) : fgtr (fneg x) 9218868437227405311 = (decide (num x) && decide (rg x = 9218868437227405312) && sg x) := by
  rw [fgtr_max, neg_rg, neg_sg, Bool.not_not]
  simp only [neg_num]
theorem fgtr_0 (x : Nat) : fgtr x 0 = (decide (num x) && decide (rg x ≠ 0) && !sg x) := by
  rw [fgtr_is, Bool.eq_iff_iff]
  have h1 : num 0 := by decide
  have h2 : sr 0 = 0 := by decide
  simp only [h1, h2, true_and, Bool.and_eq_true, decide_eq_true_eq, Bool.not_eq_true']
  unfold num sr
  cases sg x <;> simp <;> omega
theorem flss_0 (x : Nat) : flss x 0 = (decide (num x) && decide (rg x ≠ 0) && sg x) := by
  rw [flss_is, Bool.eq_iff_iff]
  have h1 : num 0 := by decide
  have h2 : sr 0 = 0 := by decide
  simp only [h1, h2, true_and, Bool.and_eq_true, decide_eq_true_eq, Bool.not_eq_true']
  unfold num sr
  cases sg x <;> simp <;> omega
theorem feq_0 (x : Nat) : feq x 0 = (decide (num x) && decide (rg x = 0)) := by
  rw [feq_is, Bool.eq_iff_iff]
  have h1 : num 0 := by decide
  have h2 : sr 0 = 0 := by decide
  simp only [h1, h2, true_and, Bool.and_eq_true, decide_eq_true_eq]
  unfold num sr
  cases sg x <;> simp only [Bool.false_eq_true, if_true, if_false] <;> omega

theorem sr_word (s : Bool) {r : Nat} (h : r < 9223372036854775808) : sr (double.word s r) = if s then -(r : Int) else (r : Int) := by
  unfold sr; rw [sg_word s h, rg_word s h]

def o1 : Nat := 4607182418800017408
theorem o1_u : u (rg o1) = one := by
  have h := (fint_u (n := 1) (by decide)).1
  have e : fint 1 = o1 := by decide +kernel
  rw [e] at h; rw [h]; simp
theorem o1_fin : rg o1 < 9218868437227405312 := by decide
theorem o1_pos : 0 < rg o1 := by decide
theorem o1_sg : sg o1 = false := by decide

theorem rn_ratio {a k : Nat} (hk : 0 < k) : rn (a * k) k = rn a 1 := by
  have := rn_scale a 1 k hk
  rwa [Nat.one_mul] at this
/-- By one: itself. -/
theorem fdiv_one {x : Nat} (hx : num x) : num (fdiv x o1) ∧ sr (fdiv x o1) = sr x := by
  unfold num at hx
  rcases Nat.lt_or_eq_of_le hx with h | h
  · rw [fdiv_is h o1_pos o1_fin, o1_u, rn_ratio one_pos, rn_u (by omega), o1_sg, Bool.xor_false]
    exact ⟨num_word _ (by omega), by rw [sr_word _ (by omega)]; rfl⟩
  · rw [fdiv_inf h o1_fin, o1_sg, Bool.xor_false]
    exact ⟨num_word _ (by omega), by rw [sr_word _ (by omega)]; unfold sr; rw [h]⟩
/-- With nought: itself. -/
theorem fadd_zero {x z : Nat} (hx : num x) (hz : rg z = 0) : (num (fadd x z) ∧ sr (fadd x z) = sr x) ∧ (num (fadd z x) ∧ sr (fadd z x) = sr x) := by
  unfold num at hx
  have hzv : vl z = 0 := vl_zero.2 hz
  rcases Nat.lt_or_eq_of_le hx with h | h
  · rw [fadd_is h (by omega), fadd_is (by omega) h, hzv, Int.add_zero, Int.zero_add, vl_natAbs, rn_u (by omega)]
    have key : ∀ b : Bool, num (double.word (if vl x = 0 then b else decide (vl x < 0)) (rg x)) ∧ sr (double.word (if vl x = 0 then b else decide (vl x < 0)) (rg x)) = sr x := by
      intro b
      refine ⟨num_word _ (by omega), ?_⟩
      rw [sr_word _ (by omega)]
      unfold sr
      by_cases h0 : vl x = 0
      · have := vl_zero.1 h0
        simp [this]
      · simp only [h0, if_false]
        have h1 := sr_vl x
        have h2 : rg x ≠ 0 := fun e => h0 (vl_zero.2 e)
        unfold sr at h1
        by_cases h3 : vl x < 0
        · simp only [h3, decide_true, if_true]; split at h1 <;> simp_all <;> omega
        · simp only [h3, decide_false, Bool.false_eq_true, if_false]; split at h1 <;> simp_all <;> omega
    exact ⟨key _, key _⟩
  · rw [fadd_inf_l h (by omega), fadd_inf_r (by omega) h]
    have : num (double.word (sg x) 9218868437227405312) ∧ sr (double.word (sg x) 9218868437227405312) = sr x := ⟨num_word _ (by omega), by rw [sr_word _ (by omega)]; unfold sr; rw [h]⟩
    exact ⟨this, this⟩

theorem wrap_neg (x : Nat) : decide (IntKind.i64.wrap (x : Int) < 0) = sg x := by
  unfold sg IntKind.wrap
  rw [Bool.eq_iff_iff]
  simp [IntKind.signed, IntKind.bits]
  split <;> omega

end Go.Proofs.Ytfpbmoiconopcaa.Am.Fl
