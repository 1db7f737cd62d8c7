/- TopFull: the run and the law. -/
import Derived.Test.YtfpbmoiconopcaaGhE
set_option maxRecDepth 100000
set_option linter.unusedSimpArgs false
set_option linter.unusedVariables false
set_option maxHeartbeats 2000000
namespace Go.Proofs.Ytfpbmoiconopcaa.Gh
open Go Go.Proofs.Ytfpbmoiconopcaa.Am GaFns Go.RowKit

theorem o1_facts : Fl.num 4607182418800017408 ∧ Fl.sg 4607182418800017408 = false := by decide
/-- All of it is one. -/
theorem off_self {a : Int} (h1 : 1 ≤ a) (h2 : a ≤ 9223372036854775807) : Fl.rg (off a a) = Fl.rg 4607182418800017408 := by
  rw [(off_facts (by omega) h2 h1 h2).2.2, ← Fl.rn_u (r := Fl.rg 4607182418800017408) (by decide)]
  have hp : 0 < Fl.u (Fl.rg (fint a)) := Fl.u_pos (Fl.fint_pos (by omega))
  refine Fl.rn_eq hp (by omega) ?_
  have : Fl.u (Fl.rg 4607182418800017408) = Fl.one := Fl.o1_u
  rw [this, Nat.mul_one, Nat.mul_comm]
theorem off_le {a b : Int} (h1 : 0 ≤ a) (h2 : a ≤ b) (h3 : 1 ≤ b) (h4 : b ≤ 9223372036854775807) : Fl.ord (off a b) 4607182418800017408 ≤ 0 ∧ pm (off a b) ≤ 1000 := by
  obtain ⟨n1, s1, _⟩ := off_facts (a := a) (b := b) h1 (by omega) h3 h4
  have m := off_mono (a := a) (a' := b) (b := b) (b' := b) h1 h2 h4 h3 (by omega) h4
  rw [off_self h3 h4] at m
  refine ⟨ord_of_rg n1 o1_facts.1 s1 o1_facts.2 m, ?_⟩
  have := pm_mono n1 o1_facts.1 s1 o1_facts.2 m
  have e : pm 4607182418800017408 = 1000 := by decide +kernel
  omega
theorem off_neg {a b : Int} (h : b < 0) : off a b = 9223372036854775808 := by unfold off; rw [if_pos h]
theorem neg_facts : decide (0 < Fl.ord 9223372036854775808 4607182418800017408) = false ∧ decide (1000 < pm 9223372036854775808) = false := by decide +kernel
theorem off_same {a : Int} (h1 : 1 ≤ a) (h2 : a ≤ 9223372036854775807) : Fl.ord (off a a) 4607182418800017408 = 0 := by
  obtain ⟨n1, s1, _⟩ := off_facts (a := a) (b := a) (by omega) h2 h1 h2
  rw [Fl.ord_zero]
  unfold Fl.ky
  rw [if_pos n1, if_pos o1_facts.1, s1, o1_facts.2, off_self h1 h2]

theorem grows_ok {a b c d e f : Int} (h : grows a b c d e f = 0) : (0 ≤ a ∧ a ≤ 1125899906842624) ∧ (0 ≤ b ∧ b ≤ 1125899906842624) ∧ (0 ≤ c ∧ c ≤ 1125899906842624) ∧ (0 ≤ d ∧ d ≤ 1125899906842624) ∧ (-1 ≤ e ∧ e ≤ 1125899906842624) ∧ (-1 ≤ f ∧ f ≤ 1125899906842624) ∧ over a c e = false ∧ over b d f = false := by
  unfold grows at h
  split at h
  · rename_i hc
    simp only [Bool.and_eq_true] at hc
    obtain ⟨⟨⟨⟨⟨h1, h2⟩, h3⟩, h4⟩, h5⟩, h6⟩ := hc
    simp only [cnt, bnd, Bool.and_eq_true, Bool.or_eq_true, decide_eq_true_eq] at h1 h2 h3 h4 h5 h6
    split at h
    · omega
    · rename_i ho
      simp only [Bool.not_eq_true, Bool.or_eq_false_iff] at ho
      exact ⟨h1, h2, h3, h4, by omega, by omega, ho.1, ho.2⟩
  · omega
theorem grows_is {a b c d e f : Int} (h1 : 0 ≤ a ∧ a ≤ 1125899906842624) (h2 : 0 ≤ b ∧ b ≤ 1125899906842624) (h3 : 0 ≤ c ∧ c ≤ 1125899906842624) (h4 : 0 ≤ d ∧ d ≤ 1125899906842624) (h5 : -1 ≤ e ∧ e ≤ 1125899906842624) (h6 : -1 ≤ f ∧ f ≤ 1125899906842624) (o1 : over a c e = false) (o2 : over b d f = false) : grows a b c d e f = 0 := by
  unfold grows
  have c1 : cnt a = true := by simp [cnt]; omega
  have c2 : cnt b = true := by simp [cnt]; omega
  have c3 : cnt c = true := by simp [cnt]; omega
  have c4 : cnt d = true := by simp [cnt]; omega
  have c5 : bnd e = true := by simp [bnd, cnt]; omega
  have c6 : bnd f = true := by simp [bnd, cnt]; omega
  simp [c1, c2, c3, c4, c5, c6, o1, o2]

/-- What comes of what is left. -/
theorem left_facts {c e : Int} (h3 : 0 ≤ c ∧ c ≤ 1125899906842624) (h5 : -1 ≤ e ∧ e ≤ 1125899906842624) : 0 ≤ left c e ∧ add2 c (left c e) = 0 ∧ add1 c (left c e) = c + left c e ∧ c + left c e ≤ 1125899906842624 ∧ over c (c + left c e) e = false ∧ (0 ≤ e → c ≤ e → c + left c e = e) := by
  have c3 : cnt c = true := by simp [cnt]; omega
  have hl : 0 ≤ lim e ∧ lim e ≤ 1125899906842624 ∧ (e ≠ -1 → lim e = e) := by unfold lim; split <;> omega
  have cl : cnt (lim e) = true := by simp [cnt]; omega
  have hv : left c e = if lim e - c < 0 then 0 else lim e - c := by simp [left, c3, cl]
  have hr : 0 ≤ left c e ∧ c + left c e ≤ 1125899906842624 ∧ (c ≤ lim e → c + left c e = lim e) ∧ (lim e ≤ c → left c e = 0) := by rw [hv]; split <;> omega
  have ca : cnt (left c e) = true := by simp [cnt]; omega
  have cs : cnt (c + left c e) = true := by simp [cnt]; omega
  refine ⟨hr.1, by simp [add2, c3, ca, cs], by simp [add1, c3, ca, cs], hr.2.1, ?_, ?_⟩
  · rw [Bool.eq_false_iff]
    intro ho
    simp only [over, Bool.and_eq_true, decide_eq_true_eq, Bool.not_eq_true', decide_eq_false_iff_not] at ho
    obtain ⟨⟨p1, p2⟩, p3⟩ := ho
    have := hl.2.2 p2
    omega
  · intro p1 p2
    have := hl.2.2 (by omega)
    omega

theorem U12 (a b c d e f : Int) (H : AHeap) : AC A 12 [.agg [.int .i64 a, .int .i64 b], .agg [.int .i64 c, .int .i64 d], .agg [.int .i64 e, .int .i64 f]] H = some (.bool true, H) := by
  refine one_val (x := GaFns.c12) rfl rfl rfl rfl rfl ?_ H
  by_cases hg : grows a b c d e f = 0
  · obtain ⟨h1, h2, h3, h4, h5, h6, ho1, ho2⟩ := grows_ok hg
    obtain ⟨l1, l2, l3, l4, l5, l6⟩ := left_facts h3 h5
    have hd : over d d f = false := by simp [over]
    have hg2 : grows c d (c + left c e) d e f = 0 := grows_is h3 h4 ⟨by omega, l4⟩ h4 h5 h6 l5 hd
    have dl : decide (left c e < 0) = false := decide_eq_false (by omega)
    have hfull : (decide (a < c) && (decide (0 < Fl.ord (off c e) 4607182418800017408) || decide (1000 < pm (off c e)))) = false := by
      by_cases hac : a < c
      · by_cases he : e < 0
        · rw [off_neg he, neg_facts.1, neg_facts.2]; simp
        · have hce : c ≤ e := by
            rw [Bool.eq_false_iff] at ho1
            by_cases hce : c ≤ e
            · exact hce
            · exact absurd (by simp [over]; omega) ho1
          obtain ⟨q1, q2⟩ := off_le h3.1 hce (by omega) (by omega)
          rw [decide_eq_false (by omega : ¬ 0 < Fl.ord (off c e) 4607182418800017408), decide_eq_false (by omega : ¬ 1000 < pm (off c e))]; simp
      · simp [hac]
    have hlast : e < 0 ∨ e < c ∨ e = 0 ∨ Fl.ord (off (c + left c e) e) 4607182418800017408 = 0 := by
      by_cases p1 : e < 0
      · exact .inl p1
      by_cases p2 : e < c
      · exact .inr (.inl p2)
      by_cases p3 : e = 0
      · exact .inr (.inr (.inl p3))
      · refine .inr (.inr (.inr ?_))
        rw [l6 (by omega) (by omega)]
        exact off_same (by omega) (by omega)
    obtain ⟨s, es⟩ : ∃ s, c + left c e = s := ⟨_, rfl⟩
    rw [es] at l3 hg2 hlast
    cases t1 : decide (a < c) <;> cases t2 : decide (0 < Fl.ord (off c e) 4607182418800017408) <;> cases t3 : decide (1000 < pm (off c e)) <;> simp only [t1, t2, t3, Bool.and_true, Bool.and_false, Bool.true_and, Bool.false_and, Bool.or_true, Bool.or_false, Bool.true_eq_false, Bool.false_eq_true] at hfull
    all_goals
      by_cases p1 : e < 0
      · simp only [c12, U53, U54, U55, U56, U16, U20, U24, hg, hg2, l2, l3, dl, t1, t2, t3, p1, decide_true, Bool.not_true, rwA, rwB, Nat.reduceAdd, Nat.reduceMul, Nat.reduceLeDiff, Int.reduceEq, Int.reduceLT, Int.reduceLE, Int.reduceAdd, Int.reduceSub, Int.reduceMul, ↓reduceIte, Nat.reduceEqDiff, reduceCtorEq, ↓cnd_true, ↓cnd_false]
      by_cases p2 : e < c
      · simp only [c12, U53, U54, U55, U56, U16, U20, U24, hg, hg2, l2, l3, dl, t1, t2, t3, p1, p2, decide_true, decide_false, Bool.not_true, rwA, rwB, Nat.reduceAdd, Nat.reduceMul, Nat.reduceLeDiff, Int.reduceEq, Int.reduceLT, Int.reduceLE, Int.reduceAdd, Int.reduceSub, Int.reduceMul, ↓reduceIte, Nat.reduceEqDiff, reduceCtorEq, ↓cnd_true, ↓cnd_false]
      by_cases p3 : e = 0
      · have dp3 : decide (e = 0) = true := decide_eq_true p3
        simp only [c12, U53, U54, U55, U56, U16, U20, U24, hg, hg2, l2, l3, dl, t1, t2, t3, p1, p2, dp3, decide_true, decide_false, Bool.not_true, rwA, rwB, Nat.reduceAdd, Nat.reduceMul, Nat.reduceLeDiff, Int.reduceEq, Int.reduceLT, Int.reduceLE, Int.reduceAdd, Int.reduceSub, Int.reduceMul, ↓reduceIte, Nat.reduceEqDiff, reduceCtorEq, ↓cnd_true, ↓cnd_false]
      · have p4 : Fl.ord (off s e) 4607182418800017408 = 0 := by
          rcases hlast with h | h | h | h
          · exact absurd h p1
          · exact absurd h p2
          · exact absurd h p3
          · exact h
        simp only [c12, U53, U54, U55, U56, U16, U20, U24, hg, hg2, l2, l3, dl, t1, t2, t3, p1, p2, p3, p4, decide_true, decide_false, Bool.not_true, rwA, rwB, Nat.reduceAdd, Nat.reduceMul, Nat.reduceLeDiff, Int.reduceEq, Int.reduceLT, Int.reduceLE, Int.reduceAdd, Int.reduceSub, Int.reduceMul, ↓reduceIte, Nat.reduceEqDiff, reduceCtorEq, ↓cnd_true, ↓cnd_false]
  · have hg' : decide (grows a b c d e f = 0) = false := decide_eq_false hg
    simp only [c12, U53, U54, hg', Bool.not_true, Bool.not_false, rwA, rwB, Nat.reduceAdd, Nat.reduceMul, Nat.reduceLeDiff, Int.reduceEq, Int.reduceLT, Int.reduceLE, Int.reduceAdd, Int.reduceSub, Int.reduceMul, ↓reduceIte, Nat.reduceEqDiff, reduceCtorEq, ↓cnd_true, ↓cnd_false]

theorem cells81 : Try.prog.cellsOf 81 = 2 := by kernel_rfl
theorem cells2 : Try.prog.cellsOf 2 = 1 := by kernel_rfl
theorem arg81 {H : AHeap} {v : AVal} {d : Dat} (h : AArg Try.prog H 81 v d) : ∃ n m, v = .agg [.int .i64 n, .int .i64 m] ∧ (IntKind.min .i64 ≤ n ∧ n ≤ IntKind.max .i64) ∧ IntKind.min .i64 ≤ m ∧ m ≤ IntKind.max .i64 :=
  arg_pair Try.underlying81 Try.underlying2 Try.underlying2 rfl rfl cells2 cells2 cells81 h

theorem law12 (H : AHeap) (args : List AVal) (dats : List Dat) (h : AArgs Try.prog H [81, 81, 81] args dats) : ∃ k H', acall A k 12 args H = some (.bool true, H') := by
  obtain ⟨v0, r, d0, ds, rfl, rfl, h0, h⟩ := args_cons h
  obtain ⟨v1, r, d1, ds, rfl, rfl, h1, h⟩ := args_cons h
  obtain ⟨v2, r, d2, ds, rfl, rfl, h2, h⟩ := args_cons h
  obtain rfl := args_nil h
  obtain ⟨a, b, rfl, _⟩ := arg81 h0
  obtain ⟨c, d, rfl, _⟩ := arg81 h1
  obtain ⟨e, f, rfl, _⟩ := arg81 h2
  obtain ⟨k, hk⟩ := AC_iff.1 (U12 a b c d e f H)
  exact ⟨k, H, hk⟩

end Go.Proofs.Ytfpbmoiconopcaa.Gh
