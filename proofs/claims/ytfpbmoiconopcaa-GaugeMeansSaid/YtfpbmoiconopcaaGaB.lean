/- GaugeOf, GaugeRow, GaugeFuller: the runs and the laws. -/
import Derived.Test.YtfpbmoiconopcaaGaAll
import Derived.Test.YtfpbmoiconopcaaAmExt
set_option maxRecDepth 100000
set_option linter.unusedSimpArgs false
set_option linter.unusedVariables false
set_option maxHeartbeats 2000000
namespace Go.Proofs.Ytfpbmoiconopcaa.Ga
open Go Go.Proofs.Ytfpbmoiconopcaa.Am GaFns Go.RowKit

theorem arg_flt {P : Program} {H : AHeap} {t : TypeId} {v : AVal} {d : Dat} (hu : P.underlying t = some (.float .f64)) (h : AArg P H t v d) : ∃ b, v = .flt .f64 b := by
  obtain ⟨fuel, cs, hr, hc⟩ := h
  rw [hu] at hc
  simp only at hc
  cases fuel with
  | zero => simp [AReads] at hr
  | succ f =>
    simp only [AReads, hu] at hr
    obtain ⟨b, rfl, rfl⟩ := hr
    simp at hc
    exact ⟨b, hc.symm⟩

theorem law3 (H : AHeap) (args : List AVal) (dats : List Dat) (h : AArgs Try.prog H [2, 2, 22, 22, 3] args dats) : ∃ k H', acall A k 3 args H = some (.bool true, H') := by
  obtain ⟨v0, r, d0, ds, rfl, rfl, h0, h⟩ := args_cons h
  obtain ⟨v1, r, d1, ds, rfl, rfl, h1, h⟩ := args_cons h
  obtain ⟨v2, r, d2, ds, rfl, rfl, h2, h⟩ := args_cons h
  obtain ⟨v3, r, d3, ds, rfl, rfl, h3, h⟩ := args_cons h
  obtain ⟨v4, r, d4, ds, rfl, rfl, h4, h⟩ := args_cons h
  obtain rfl := args_nil h
  obtain ⟨a, rfl, _⟩ := arg_int Try.underlying2 h0
  obtain ⟨b, rfl, _⟩ := arg_int Try.underlying2 h1
  obtain ⟨x, rfl⟩ := arg_flt Try.underlying22 h2
  obtain ⟨y, rfl⟩ := arg_flt Try.underlying22 h3
  obtain ⟨k, rfl, _⟩ := arg_int Try.underlying3 h4
  obtain ⟨k, hk⟩ := AC_iff.1 (U3 a b x y k H)
  exact ⟨k, H, hk⟩

/-! ### One row -/
theorem o1_alike {a b : Nat} (ha : Fl.rg a = 0) (hb : Fl.rg b = 0) : feq (fdiv 4607182418800017408 a) (fdiv 4607182418800017408 b) = decide (Fl.sg a = Fl.sg b) := by
  rw [Fl.fdiv_zero (by decide) (by decide) ha, Fl.fdiv_zero (by decide) (by decide) hb, show Fl.sg 4607182418800017408 = false by decide, Bool.false_xor, Bool.false_xor, Fl.feq_is]
  have h1 := Fl.num_word (Fl.sg a) (r := 9218868437227405312) (by omega)
  have h2 := Fl.num_word (Fl.sg b) (r := 9218868437227405312) (by omega)
  rw [Fl.sr_word _ (by omega), Fl.sr_word _ (by omega)]
  simp only [h1, h2, true_and]
  cases Fl.sg a <;> cases Fl.sg b <;> simp
/-- What the law says of two that are alike. -/
theorem alike_is (a b : Nat) : ((feq a b && (!feq a 0 || feq (fdiv 4607182418800017408 a) (fdiv 4607182418800017408 b))) || (!feq a a && !feq b b)) = decide (Fl.ord a b = 0) := by
  rw [Bool.eq_iff_iff]
  simp only [decide_eq_true_eq, Fl.ord_zero, Fl.feq_self, Bool.or_eq_true, Bool.and_eq_true, Bool.not_eq_true']
  by_cases ha : Fl.num a
  · by_cases hb : Fl.num b
    · simp only [ha, hb, decide_true, Bool.true_eq_false, and_self, or_false]
      rw [Fl.feq_is, Fl.feq_0]
      simp only [ha, hb, true_and, decide_eq_true_eq, decide_true, Bool.true_and]
      by_cases h0 : Fl.rg a = 0
      · by_cases h1 : Fl.rg b = 0
        · rw [o1_alike h0 h1]
          unfold Fl.ky Fl.sr
          simp only [if_pos ha, if_pos hb, h0, h1]
          cases Fl.sg a <;> cases Fl.sg b <;> simp
        · unfold Fl.ky Fl.sr
          simp only [if_pos ha, if_pos hb, h0]
          cases Fl.sg a <;> cases Fl.sg b <;> simp <;> omega
      · unfold Fl.ky Fl.sr
        simp only [if_pos ha, if_pos hb]
        cases Fl.sg a <;> cases Fl.sg b <;> simp <;> omega
    · have : feq a b = false := by rw [Fl.feq_is]; simp [hb]
      have h2 : Fl.rg a ≤ 9218868437227405312 := ha
      simp only [ha, hb, this, decide_true, decide_false, Bool.true_eq_false, Bool.false_eq_true, false_and, or_self]
      unfold Fl.ky
      simp only [if_pos ha, if_neg hb]
      cases Fl.sg a <;> simp <;> omega
  · by_cases hb : Fl.num b
    · have : feq a b = false := by rw [Fl.feq_is]; simp [ha]
      have h2 : Fl.rg b ≤ 9218868437227405312 := hb
      simp only [ha, hb, this, decide_true, decide_false, Bool.true_eq_false, Bool.false_eq_true, false_and, and_false, or_self]
      unfold Fl.ky
      simp only [if_pos hb, if_neg ha]
      cases Fl.sg b <;> simp <;> omega
    · simp [ha, hb, Fl.ky]

theorem gtr_ky {a b : Nat} (h : Fl.ord a b = -1) : fgtr a b = false := by
  rw [Fl.ord_neg1] at h
  rw [Fl.fgtr_is]
  simp only [decide_eq_false_iff_not]
  rintro ⟨ha, hb, h3⟩
  unfold Fl.ky Fl.sr at *
  simp only [if_pos ha, if_pos hb] at h
  revert h h3
  cases Fl.sg a <;> cases Fl.sg b <;> simp <;> omega

def test4 (x y z : Int) : Bool := decide (x ≤ 0) && decide (y ≤ 0) && decide (0 < z) || (decide (x < 0) && decide (y ≤ 0) && !decide (z = -1))
theorem test4_is (a b c : Nat) : test4 (Fl.ord a b) (Fl.ord b c) (Fl.ord a c) = false := by
  unfold test4
  have h1 := Fl.ord_le a b
  have h2 := Fl.ord_le b c
  have h3 := Fl.ord_le a c
  have h4 := Fl.ord_neg1 a b
  have h5 := Fl.ord_neg1 a c
  have h6 := Fl.ord_range a b
  have h7 := Fl.ord_range a c
  rw [Bool.eq_false_iff]
  intro h
  simp only [Bool.or_eq_true, Bool.and_eq_true, decide_eq_true_eq, Bool.not_eq_true', decide_eq_false_iff_not] at h
  omega

theorem U4 (a b c : Nat) (H : AHeap) : AC A 4 [.flt .f64 a, .flt .f64 b, .flt .f64 c] H = some (.bool true, H) := by
  refine one_val (x := GaFns.c4) rfl rfl rfl rfl rfl ?_ H
  have e1 := Fl.ord_neg a b
  have e0 := Fl.ord_self a
  have hr := Fl.ord_range a b
  have ht := test4_is a b c
  have ha := alike_is a b
  have hg := @gtr_ky a b
  have w1 : IntKind.i64.wrap (-(-Fl.ord a b)) = Fl.ord a b := by rw [Int.neg_neg, wrap_i64]; omega
  obtain ⟨x, hx⟩ : ∃ x, Fl.ord a b = x := ⟨_, rfl⟩
  obtain ⟨y, hy⟩ : ∃ x, Fl.ord b c = x := ⟨_, rfl⟩
  obtain ⟨z, hz⟩ : ∃ x, Fl.ord a c = x := ⟨_, rfl⟩
  rw [hx] at e1 hr ht ha hg w1
  rw [hy, hz] at ht
  have d1 : decide (x < -1) = false := decide_eq_false (by omega)
  have d2 : decide (1 < x) = false := decide_eq_false (by omega)
  unfold test4 at ht
  simp only [c4, U14, U24, e1, e0, hx, hy, hz, w1, d1, d2, decide_true, Bool.not_true, rwA, rwB, Nat.reduceAdd, Nat.reduceMul, Nat.reduceLeDiff, Int.reduceEq, Int.reduceLT, Int.reduceLE, Int.reduceAdd, Int.reduceSub, Int.reduceMul, ↓reduceIte, Nat.reduceEqDiff, reduceCtorEq, ↓cnd_true, ↓cnd_false]
  repeat' (refine ans_cnd (fun h => ?_) (fun h => ?_) <;> try simp only [h, U24, hx, hy, hz, w1, rwA, rwB, Nat.reduceAdd, Nat.reduceMul, Nat.reduceLeDiff, Int.reduceEq, Int.reduceLT, Int.reduceLE, Int.reduceAdd, Int.reduceSub, Int.reduceMul, ↓reduceIte, Nat.reduceEqDiff, reduceCtorEq, ↓cnd_true, ↓cnd_false])
  all_goals (clear hx hy hz e0 e1 w1; simp_all)
  all_goals omega

theorem law4 (H : AHeap) (args : List AVal) (dats : List Dat) (h : AArgs Try.prog H [22, 22, 22] args dats) : ∃ k H', acall A k 4 args H = some (.bool true, H') := by
  obtain ⟨v0, r, d0, ds, rfl, rfl, h0, h⟩ := args_cons h
  obtain ⟨v1, r, d1, ds, rfl, rfl, h1, h⟩ := args_cons h
  obtain ⟨v2, r, d2, ds, rfl, rfl, h2, h⟩ := args_cons h
  obtain rfl := args_nil h
  obtain ⟨x, rfl⟩ := arg_flt Try.underlying22 h0
  obtain ⟨y, rfl⟩ := arg_flt Try.underlying22 h1
  obtain ⟨z, rfl⟩ := arg_flt Try.underlying22 h2
  obtain ⟨k, hk⟩ := AC_iff.1 (U4 x y z H)
  exact ⟨k, H, hk⟩

end Go.Proofs.Ytfpbmoiconopcaa.Ga
