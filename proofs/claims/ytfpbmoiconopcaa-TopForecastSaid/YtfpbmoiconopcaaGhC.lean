/- TopForecast: the numbers. -/
import Derived.Test.YtfpbmoiconopcaaGhA
import Derived.Test.YtfpbmoiconopcaaGhF
set_option maxRecDepth 100000
set_option linter.unusedSimpArgs false
set_option linter.unusedVariables false
set_option maxHeartbeats 2000000
namespace Go.Proofs.Ytfpbmoiconopcaa.Gh
open Go Go.Proofs.Ytfpbmoiconopcaa.Am GaFns Go.RowKit

/-! ### The points -/
def pt (b e : Int) (j : Nat) : Int × Int := ((j : Int), b + (j : Int) * e)
def hist (b e : Int) (r i : Nat) : List (Int × Int) := ((List.range i).map (pt b e)).drop (i - r)
theorem hist_len (b e : Int) (r i : Nat) : (hist b e r i).length = i - (i - r) := by simp [hist]
theorem hist_get (b e : Int) (r i k : Nat) (h : k < (hist b e r i).length) : (hist b e r i)[k] = pt b e (i - r + k) := by
  simp [hist]
theorem hist_succ (b e : Int) (r : Int) (i : Nat) : kept r (hist b e r.toNat i) (i : Int) (b + (i : Int) * e) = hist b e r.toNat (i + 1) := by
  unfold kept
  rw [hist_len]
  unfold hist
  have h1 : (List.map (pt b e) (List.range i)).drop (i - r.toNat) ++ [((i : Int), b + (i : Int) * e)] = (List.map (pt b e) (List.range (i + 1))).drop (i - r.toNat) := by
    rw [List.range_succ, List.map_append, List.drop_append_of_le_length (by simp)]; rfl
  rw [h1, List.drop_drop]
  congr 1
  omega
theorem pt_ok {b e : Int} {j : Nat} (hb : 0 ≤ b ∧ b ≤ 65535) (he : 0 ≤ e ∧ e ≤ 65535) (hj : j ≤ 30) : okp (pt b e j) = true := by
  have h1 : (0 : Int) ≤ (j : Int) * e := Int.mul_nonneg (by omega) he.1
  have h2 : (j : Int) * e ≤ 30 * 65535 := Int.mul_le_mul (by omega) he.2 he.1 (by omega)
  have h3 : cnt (j : Int) = true := by simp [cnt]; omega
  have h4 : cnt (b + (j : Int) * e) = true := by simp [cnt]; omega
  show (cnt (j : Int) && cnt (b + (j : Int) * e)) = true
  rw [h3, h4]; rfl
theorem hist_right {b e r : Int} {i : Nat} (hb : 0 ≤ b ∧ b ≤ 65535) (he : 0 ≤ e ∧ e ≤ 65535) (hr : 1 ≤ r ∧ r ≤ 64) (hi : i ≤ 30) : right r (hist b e r.toNat i) = true := by
  simp only [right, Bool.and_eq_true, decide_eq_true_eq]
  refine ⟨⟨hr, by rw [hist_len]; omega⟩, ?_⟩
  simp only [goodN, List.all_eq_true, List.mem_range]
  intro k hk
  have hkl := hist_len b e r.toNat i
  rw [hkl] at hk
  have e1 : at0 (hist b e r.toNat i) k = pt b e (i - r.toNat + k) := by rw [at0_get (by omega), hist_get]
  simp only [stp, e1, pt_ok hb he (show i - r.toNat + k ≤ 30 by omega), Bool.true_and, Bool.or_eq_true, decide_eq_true_eq]
  by_cases h0 : k = 0
  · exact .inl h0
  · refine .inr ?_
    have e2 : at0 (hist b e r.toNat i) (k - 1) = pt b e (i - r.toNat + (k - 1)) := by rw [at0_get (by omega), hist_get]
    rw [e2]
    simp only [pt]
    omega
theorem hist_last {b e r : Int} {i : Nat} (hr : 1 ≤ r ∧ r ≤ 64) (hi : 1 ≤ i) : lastP (hist b e r.toNat i) = pt b e (i - 1) := by
  have hkl := hist_len b e r.toNat i
  unfold lastP
  rw [at0_get (by omega), hist_get]
  congr 1
  omega
theorem hist_has {b e r : Int} {i : Nat} (hb : 0 ≤ b ∧ b ≤ 65535) (he : 0 ≤ e ∧ e ≤ 65535) (hr : 1 ≤ r ∧ r ≤ 64) (hi : i ≤ 30) (h1 : 1 ≤ i) : has r (hist b e r.toNat i) = true := by
  have hkl := hist_len b e r.toNat i
  unfold has
  rw [hist_right hb he hr hi, decide_eq_false (by omega)]; rfl
theorem hist_may {b e r : Int} {i : Nat} (hb : 0 ≤ b ∧ b ≤ 65535) (he : 0 ≤ e ∧ e ≤ 65535) (hr : 1 ≤ r ∧ r ≤ 64) (hi : i ≤ 30) : may r (hist b e r.toNat i) (i : Int) (b + (i : Int) * e) = true := by
  unfold may
  rw [hist_right hb he hr hi]
  have h1 := pt_ok (j := i) hb he hi
  unfold pt at h1
  rw [h1]
  by_cases h0 : i = 0
  · have : has r (hist b e r.toNat i) = false := by
      have hkl := hist_len b e r.toNat i
      unfold has
      rw [decide_eq_true (by omega)]; simp
    rw [this]; rfl
  · rw [hist_last hr (by omega)]
    have : decide ((i : Int) ≤ (pt b e (i - 1)).1) = false := decide_eq_false (by simp only [pt]; omega)
    rw [this]; simp

/-! ### The floats -/
theorem fint_word {n : Nat} : fint (n : Int) = Ieee.double.word false (Fl.rn (n * Fl.one) 1) := by
  rw [Fl.fint_is, decide_eq_false (by omega)]; simp
theorem fdiv_nat {a d : Nat} (ha : a < 9007199254740992) (hd : 0 < d) (hd' : d < 9007199254740992) : fdiv (fint (a : Int)) (fint (d : Int)) = Ieee.double.word false (Fl.rn (a * Fl.one) d) := by
  obtain ⟨ua, fa⟩ := Fl.fint_u (n := (a : Int)) (by simpa using ha)
  obtain ⟨ud, fd⟩ := Fl.fint_u (n := (d : Int)) (by simpa using hd')
  rw [Int.natAbs_natCast] at ua ud
  rw [Fl.fdiv_is fa (Fl.fint_pos (by simpa using hd)) fd, ua, ud, Fl.fint_sg, Fl.fint_sg, decide_eq_false (by omega), decide_eq_false (by omega)]
  rw [show (false ^^ false) = false from rfl]
  exact congrArg (Ieee.double.word false) (Fl.rn_scale _ _ _ Fl.one_pos)
theorem slope_is {b e r : Int} {i : Nat} (hb : 0 ≤ b ∧ b ≤ 65535) (he : 1 ≤ e ∧ e ≤ 65535) (hr : 2 ≤ r ∧ r ≤ 64) (h2 : 2 ≤ i) (hi : i ≤ 30) : slope r (hist b e r.toNat i) = fint e := by
  have hkl := hist_len b e r.toNat i
  unfold slope
  rw [hist_has hb ⟨by omega, he.2⟩ ⟨by omega, hr.2⟩ hi (by omega), decide_eq_false (by omega), hist_last ⟨by omega, hr.2⟩ (by omega)]
  have e0 : at0 (hist b e r.toNat i) 0 = pt b e (i - r.toNat) := by rw [at0_get (by omega), hist_get]; simp
  rw [e0]
  simp only [Bool.not_false, Bool.and_self, if_true, pt]
  obtain ⟨E, rfl⟩ := Int.eq_ofNat_of_zero_le (show 0 ≤ e by omega)
  obtain ⟨n, hn⟩ : ∃ n : Nat, (i - 1) - (i - r.toNat) = n := ⟨_, rfl⟩
  have c1 : (b + ((i - 1 : Nat) : Int) * (E : Int) - (b + ((i - r.toNat : Nat) : Int) * (E : Int))) = ((n * E : Nat) : Int) := by
    have : ((n * E : Nat) : Int) = (((i - 1 : Nat) : Int) - ((i - r.toNat : Nat) : Int)) * (E : Int) := by
      rw [Int.natCast_mul]; congr 1; omega
    rw [this, Int.sub_mul]; omega
  have c2 : (((i - 1 : Nat) : Int) - ((i - r.toNat : Nat) : Int)) = (n : Int) := by omega
  rw [c1, c2]
  have hnE : n * E ≤ 30 * 65535 := Nat.mul_le_mul (by omega) (by omega)
  rw [fdiv_nat (by omega) (by omega) (by omega), fint_word]
  refine congrArg (Ieee.double.word false) ?_
  refine Fl.rn_eq (by omega) (by omega) ?_
  rw [Nat.mul_one, Nat.mul_assoc, Nat.mul_comm]

/-- What is told, and how many whole ticks that are. -/
theorem told {D E : Nat} (hD : D ≤ 262144) (hE : 1 ≤ E ∧ E ≤ 65535) :
    (D / E) * Fl.one ≤ Fl.u (Fl.rn (D * Fl.one) E) ∧ Fl.u (Fl.rn (D * Fl.one) E) < (D / E + 1) * Fl.one ∧ Fl.rn (D * Fl.one) E < 9218868437227405312 := by
  generalize hq : D / E = q
  have hdm := Nat.div_add_mod D E
  have hml := Nat.mod_lt D (show 0 < E by omega)
  rw [hq] at hdm
  have hqD : q ≤ 262144 := by rw [← hq]; exact Nat.le_trans (Nat.div_le_self _ _) hD
  have low : Fl.rn (q * Fl.one) 1 ≤ Fl.rn (D * Fl.one) E := by
    refine Fl.rn_mono (by omega) (by omega) ?_
    rw [Nat.mul_one, Nat.mul_right_comm]
    exact Nat.mul_le_mul_right _ (by rw [Nat.mul_comm]; omega)
  obtain ⟨u1, f1⟩ := Fl.fint_u (n := (q : Int)) (by rw [Int.natAbs_natCast]; omega)
  rw [Int.natAbs_natCast, Fl.fint_rg, Int.natAbs_natCast] at u1
  have hone : Fl.one = 65536 * 2 ^ (Fl.pl - 16) := by
    rw [Fl.one_is, show (65536 : Nat) = 2 ^ 16 by decide, ← Nat.pow_add]
    congr 1
  generalize hP : 2 ^ (Fl.pl - 16) = p at hone
  have hp : 0 < p := by rw [← hP]; exact Nat.two_pow_pos _
  -- the greatest number below the next whole one that need be looked at
  have hN : (q * 65536 + 65535) ≠ 0 := by omega
  have hlog : (q * 65536 + 65535).log2 < 53 := (Nat.log2_lt hN).2 (by rw [show (2:Nat) ^ 53 = 9007199254740992 by decide]; omega)
  have hexact := Fl.u_rn (N := (q * 65536 + 65535) * p) (by
      rw [Fl.ip_is, Nat.pow_add, ← Fl.one_is, hone, ← Nat.mul_assoc]
      refine Nat.mul_lt_mul_of_pos_right ?_ hp
      have : (2:Nat) ^ 54 ≤ 2 ^ Fl.ia := Nat.pow_le_pow_right (by omega) (by have := Fl.ia_is; omega)
      have h54 : (2:Nat) ^ 54 = 18014398509481984 := by decide
      omega) (by
      rw [Fl.dl, Nat.div_one, ← hP, Fl.log2_shift _ hN]
      exact Nat.dvd_trans (Nat.pow_dvd_pow 2 (by omega)) (Nat.dvd_mul_left _ _))
  have high : Fl.rn (D * Fl.one) E ≤ Fl.rn ((q * 65536 + 65535) * p) 1 := by
    refine Fl.rn_mono (by omega) (by omega) ?_
    rw [Nat.mul_one, hone, ← Nat.mul_assoc, Nat.mul_right_comm _ p E]
    refine Nat.mul_le_mul_right _ ?_
    have a1 : D ≤ q * E + (E - 1) := by rw [Nat.mul_comm q E]; omega
    have a2 : D * 65536 ≤ (q * E + (E - 1)) * 65536 := Nat.mul_le_mul_right _ a1
    rw [Nat.add_mul] at a2
    rw [Nat.add_mul, Nat.mul_right_comm q 65536 E]
    omega
  refine ⟨?_, ?_, ?_⟩
  · rw [← u1]; exact Fl.u_le_iff.2 low
  · refine Nat.lt_of_le_of_lt (Fl.u_le_iff.2 high) ?_
    rw [hexact.1, hone, ← Nat.mul_assoc]
    exact Nat.mul_lt_mul_of_pos_right (by omega) hp
  · exact Nat.lt_of_le_of_lt high hexact.2

theorem floor_is {x : Nat} (hx : Fl.rg x < 9218868437227405312) (hs : Fl.sg x = false) : ffloor x = fint ((Fl.u (Fl.rg x) / Fl.one : Nat) : Int) := by
  obtain ⟨m, p, hm, hu⟩ := Fl.read_num hx
  rw [hs] at hm
  have ht := Fl.toInt_eq hx
  rw [hs] at ht
  simp only [hm, Ieee.Datum.toInt, Ieee.Datum.integral, Ieee.signed, Bool.false_eq_true, if_false, Option.some.injEq, Nat.shiftLeft_zero] at ht
  unfold ffloor
  rw [hm, fint_word]
  have hc : Ieee.Toward.cut .down false (m <<< (-1074 + (p : Int)).toNat) (-(-1074 + (p : Int))).toNat = Ieee.Toward.cut .zero false (m <<< (-1074 + (p : Int)).toNat) (-(-1074 + (p : Int))).toNat := rfl
  simp only [Ieee.Datum.integral, hc]
  have hk : Ieee.Toward.cut .zero false (m <<< (-1074 + (p : Int)).toNat) (-(-1074 + (p : Int))).toNat = Fl.u (Fl.rg x) / Fl.one := by
    have := ht
    exact Int.ofNat.inj this
  rw [hk]
  have hw := Fl.write_num false (Fl.u (Fl.rg x) / Fl.one) (Fl.pl : Int)
  have hpl := Fl.pl_is
  rw [show (-1074 : Int) + (Fl.pl : Int) = 0 by omega, Int.toNat_natCast, show (-(Fl.pl:Int)).toNat = 0 by omega, Nat.pow_zero, ← Fl.one_is] at hw
  exact hw
theorem toI_fint {n : Nat} (h : n ≤ 9007199254740991) : floatToIntVal .f64 (fint (n : Int)) .i64 = some (n : Int) := by
  obtain ⟨u1, f1⟩ := Fl.fint_u (n := (n : Int)) (by rw [Int.natAbs_natCast]; omega)
  have ht := Fl.toInt_eq f1
  rw [Fl.fint_sg, decide_eq_false (by omega), u1, Int.natAbs_natCast, Nat.mul_div_cancel _ Fl.one_pos] at ht
  have e : FloatKind.decode .f64 (fint (n : Int)) = Ieee.double.read (fint (n : Int)) := rfl
  simp only [floatToIntVal, e, ht, Bool.false_eq_true, if_false]
  rw [if_pos ⟨by simp [IntKind.min, IntKind.signed, IntKind.bits] <;> omega, by simp [IntKind.max, IntKind.signed, IntKind.bits]; omega⟩]

/-- What is told of a limit that is not reached. -/
theorem left_is {b e r lim : Int} {i : Nat} (hb : 0 ≤ b ∧ b ≤ 65535) (he : 1 ≤ e ∧ e ≤ 65535) (hr : 2 ≤ r ∧ r ≤ 64) (h2 : 2 ≤ i) (hi : i ≤ 30) {D : Nat} (hD : lim = (pt b e (i - 1)).2 + D) (hD0 : 0 < D) (hlim : 0 ≤ lim ∧ lim ≤ 262144) (hD1 : D ≤ 262144) {E : Nat} (hE : e = E) :
    leftH r (hist b e r.toNat i) lim = Ieee.double.word false (Fl.rn (D * Fl.one) E) := by
  unfold leftH
  rw [hist_has hb ⟨by omega, he.2⟩ ⟨by omega, hr.2⟩ hi (by omega), slope_is hb he hr h2 hi, hist_last ⟨by omega, hr.2⟩ (by omega)]
  rw [if_pos rfl, if_neg (by omega), if_neg (by omega)]
  have hg : fgtr (fint e) 0 = true := by
    have hp : Fl.rg (fint e) ≠ 0 := by have := Fl.fint_pos (n := e) (by omega); omega
    rw [Fl.fgtr_0, Fl.fint_sg, decide_eq_true (Fl.fint_num e), decide_eq_true hp, decide_eq_false (by omega)]; rfl
  rw [if_pos hg, show lim - (pt b e (i - 1)).2 = (D : Int) by omega, hE]
  exact fdiv_nat (by omega) (by omega) (by omega)
/-- A reached one. -/
theorem left_done {b e r lim : Int} {i : Nat} (hb : 0 ≤ b ∧ b ≤ 65535) (he : 1 ≤ e ∧ e ≤ 65535) (hr : 2 ≤ r ∧ r ≤ 64) (h2 : 2 ≤ i) (hi : i ≤ 30) (h : lim ≤ (pt b e (i - 1)).2) (hlim : 0 ≤ lim) : leftH r (hist b e r.toNat i) lim = 0 := by
  unfold leftH
  rw [hist_has hb ⟨by omega, he.2⟩ ⟨by omega, hr.2⟩ hi (by omega), hist_last ⟨by omega, hr.2⟩ (by omega)]
  rw [if_pos rfl, if_neg (by omega), if_pos h]

/-- An alarm for that many ticks, or not. -/
theorem alarm_is {x n : Nat} (hx : Fl.num x) (hs : Fl.sg x = false) (hn : n ≤ 9007199254740991) : (flss x (fint (n : Int)) || feq x (fint (n : Int))) = decide (Fl.u (Fl.rg x) ≤ n * Fl.one) := by
  obtain ⟨u1, f1⟩ := Fl.fint_u (n := (n : Int)) (by rw [Int.natAbs_natCast]; omega)
  rw [Int.natAbs_natCast] at u1
  rw [Fl.flss_is, Fl.feq_is, ← u1, Bool.eq_iff_iff]
  have h1 := Fl.fint_num (n : Int)
  have h2 := @Fl.u_le_iff (Fl.rg x) (Fl.rg (fint (n : Int)))
  simp only [hx, h1, true_and, Bool.or_eq_true, decide_eq_true_eq, h2]
  unfold Fl.sr
  rw [hs, Fl.fint_sg, decide_eq_false (by omega)]
  simp only [Bool.false_eq_true, if_false]
  omega

end Go.Proofs.Ytfpbmoiconopcaa.Gh
