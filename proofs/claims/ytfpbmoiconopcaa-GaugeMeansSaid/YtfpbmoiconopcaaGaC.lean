/- GaugeFuller: the run and the law. -/
import Derived.Test.YtfpbmoiconopcaaGaB
set_option maxRecDepth 100000
set_option linter.unusedSimpArgs false
set_option linter.unusedVariables false
set_option maxHeartbeats 2000000
namespace Go.Proofs.Ytfpbmoiconopcaa.Ga
open Go Go.Proofs.Ytfpbmoiconopcaa.Am GaFns Go.RowKit

/-! ### Fuller -/
theorem off_facts {a b : Int} (ha : 0 ≤ a) (ha' : a ≤ 9223372036854775807) (hb : 1 ≤ b) (hb' : b ≤ 9223372036854775807) :
    Fl.num (off a b) ∧ Fl.sg (off a b) = false ∧ Fl.rg (off a b) = Fl.rn (Fl.u (Fl.rg (fint a)) * Fl.one) (Fl.u (Fl.rg (fint b))) := by
  have h1 : Fl.rg (fint a) < 9218868437227405312 := Fl.fint_lt_inf (by rw [show (2:Nat) ^ 64 = 18446744073709551616 by decide]; omega)
  have h2 : Fl.rg (fint b) < 9218868437227405312 := Fl.fint_lt_inf (by rw [show (2:Nat) ^ 64 = 18446744073709551616 by decide]; omega)
  have h3 : 0 < Fl.rg (fint b) := Fl.fint_pos (by omega)
  unfold off
  rw [if_neg (by omega), Fl.fdiv_is h1 h3 h2, Fl.fint_sg, Fl.fint_sg, decide_eq_false (show ¬ a < 0 by omega), decide_eq_false (show ¬ b < 0 by omega)]
  exact ⟨Fl.num_word _ (Fl.rn_le_inf _ _), Fl.sg_word _ (Fl.rn_lt _ _), Fl.rg_word _ (Fl.rn_lt _ _)⟩
theorem fint_rg_mono {a b : Int} (h : a ≤ b) (ha : 0 ≤ a) : Fl.rg (fint a) ≤ Fl.rg (fint b) := by
  have := Fl.fint_mono h
  unfold Fl.sr at this
  rw [Fl.fint_sg, Fl.fint_sg, decide_eq_false (show ¬ a < 0 by omega), decide_eq_false (show ¬ b < 0 by omega)] at this
  simpa using this
theorem off_mono {a a' b b' : Int} (h1 : 0 ≤ a) (h2 : a ≤ a') (h3 : a' ≤ 9223372036854775807) (h4 : 1 ≤ b') (h5 : b' ≤ b) (h6 : b ≤ 9223372036854775807) : Fl.rg (off a b) ≤ Fl.rg (off a' b') := by
  rw [(off_facts h1 (by omega) (by omega) h6).2.2, (off_facts (by omega) h3 h4 (by omega)).2.2]
  have p1 : 0 < Fl.u (Fl.rg (fint b)) := Fl.u_pos (Fl.fint_pos (by omega))
  have p2 : 0 < Fl.u (Fl.rg (fint b')) := Fl.u_pos (Fl.fint_pos (by omega))
  refine Fl.rn_mono p1 p2 ?_
  have m1 := Fl.u_le_iff.2 (fint_rg_mono h2 h1)
  have m2 := Fl.u_le_iff.2 (fint_rg_mono h5 (by omega))
  exact Nat.mul_le_mul (Nat.mul_le_mul_right _ m1) m2

theorem ord_of_rg {x y : Nat} (hx : Fl.num x) (hy : Fl.num y) (sx : Fl.sg x = false) (sy : Fl.sg y = false) (h : Fl.rg x ≤ Fl.rg y) : Fl.ord x y ≤ 0 := by
  rw [Fl.ord_le]
  unfold Fl.ky
  rw [if_pos hx, if_pos hy, sx, sy]
  simpa using h
theorem pm_mono {x y : Nat} (hx : Fl.num x) (hy : Fl.num y) (sx : Fl.sg x = false) (sy : Fl.sg y = false) (h : Fl.rg x ≤ Fl.rg y) : pm x ≤ pm y := by
  unfold pm
  rw [if_pos hx, if_pos hy, sx, sy]
  simp only [Bool.false_eq_true, if_false]
  by_cases h1 : Fl.rg T ≤ Fl.rg x
  · rw [if_pos h1, if_pos (by omega)]; omega
  · rw [if_neg h1]
    by_cases h2 : Fl.rg T ≤ Fl.rg y
    · rw [if_pos h2]; exact (th_range (by omega) sx).2
    · rw [if_neg h2]
      unfold th
      rw [(fmul_T (by omega) sx).2.1, (fmul_T (by omega) sy).2.1]
      have m := Fl.u_le_iff.2 h
      have r := Fl.rn_mono (N := Fl.u (Fl.rg x) * Fl.u (Fl.rg T)) (D := Fl.one) (N' := Fl.u (Fl.rg y) * Fl.u (Fl.rg T)) (D' := Fl.one) Fl.one_pos Fl.one_pos (Nat.mul_le_mul_right _ (Nat.mul_le_mul_right _ m))
      have r2 := Nat.div_le_div_right (c := Fl.one) (Fl.u_le_iff.2 r)
      omega
theorem none_kd : Fl.kd 9223372036854775808 = 2 := by decide
theorem none_pm : pm 9223372036854775808 = 0 := by decide
theorem off_none (a : Int) : off a (-1) = 9223372036854775808 := by simp [off]

theorem U5 (a b c d : Int) (hb : b ≤ 9223372036854775807) (hd : d ≤ 9223372036854775807) (H : AHeap) : AC A 5 [.int .i64 a, .int .i64 b, .int .i64 c, .int .i64 d] H = some (.bool true, H) := by
  refine one_val (x := GaFns.c5) rfl rfl rfl rfl rfl ?_ H
  simp only [c5, U14, U16, U18, U20, U24, off_none, none_kd, none_pm, decide_true, Bool.not_true, rwA, rwB, Nat.reduceAdd, Nat.reduceMul, Nat.reduceLeDiff, Int.reduceEq, Int.reduceLT, Int.reduceLE, Int.reduceAdd, Int.reduceSub, Int.reduceMul, ↓reduceIte, Nat.reduceEqDiff, reduceCtorEq, ↓cnd_true, ↓cnd_false]
  by_cases g1 : a < 0
  · simp only [U16, U18, U20, off_none, none_kd, none_pm, g1, decide_true, rwA, rwB, Nat.reduceAdd, Nat.reduceMul, Nat.reduceLeDiff, Int.reduceEq, Int.reduceLT, Int.reduceLE, Int.reduceAdd, Int.reduceSub, Int.reduceMul, ↓reduceIte, Nat.reduceEqDiff, reduceCtorEq, ↓cnd_true, ↓cnd_false]
  by_cases g2 : b < a
  · simp only [U16, U18, U20, off_none, none_kd, none_pm, g1, g2, decide_true, decide_false, rwA, rwB, Nat.reduceAdd, Nat.reduceMul, Nat.reduceLeDiff, Int.reduceEq, Int.reduceLT, Int.reduceLE, Int.reduceAdd, Int.reduceSub, Int.reduceMul, ↓reduceIte, Nat.reduceEqDiff, reduceCtorEq, ↓cnd_true, ↓cnd_false]
  by_cases g3 : c < 1
  · simp only [U16, U18, U20, off_none, none_kd, none_pm, g1, g2, g3, decide_true, decide_false, rwA, rwB, Nat.reduceAdd, Nat.reduceMul, Nat.reduceLeDiff, Int.reduceEq, Int.reduceLT, Int.reduceLE, Int.reduceAdd, Int.reduceSub, Int.reduceMul, ↓reduceIte, Nat.reduceEqDiff, reduceCtorEq, ↓cnd_true, ↓cnd_false]
  by_cases g4 : d < c
  · simp only [U16, U18, U20, off_none, none_kd, none_pm, g1, g2, g3, g4, decide_true, decide_false, rwA, rwB, Nat.reduceAdd, Nat.reduceMul, Nat.reduceLeDiff, Int.reduceEq, Int.reduceLT, Int.reduceLE, Int.reduceAdd, Int.reduceSub, Int.reduceMul, ↓reduceIte, Nat.reduceEqDiff, reduceCtorEq, ↓cnd_true, ↓cnd_false]
  obtain ⟨n1, s1, _⟩ := off_facts (a := a) (b := c) (by omega) (by omega) (by omega) (by omega)
  obtain ⟨n2, s2, _⟩ := off_facts (a := b) (b := c) (by omega) (by omega) (by omega) (by omega)
  obtain ⟨n3, s3, _⟩ := off_facts (a := a) (b := d) (by omega) (by omega) (by omega) (by omega)
  have m1 := off_mono (a := a) (a' := b) (b := c) (b' := c) (by omega) (by omega) hb (by omega) (by omega) (by omega)
  have m2 := off_mono (a := a) (a' := a) (b := d) (b' := c) (by omega) (by omega) (by omega) (by omega) (by omega) hd
  have e1 : decide (Fl.ord (off a c) (off b c) ≤ 0) = true := decide_eq_true (ord_of_rg n1 n2 s1 s2 m1)
  have e2 : decide (Fl.ord (off a d) (off a c) ≤ 0) = true := decide_eq_true (ord_of_rg n3 n1 s3 s1 m2)
  have e3 : decide (pm (off a c) ≤ pm (off b c)) = true := decide_eq_true (pm_mono n1 n2 s1 s2 m1)
  have e4 : decide (pm (off a d) ≤ pm (off a c)) = true := decide_eq_true (pm_mono n3 n1 s3 s1 m2)
  simp only [U16, U20, U24, g1, g2, g3, g4, e1, e2, e3, e4, decide_true, decide_false, rwA, rwB, Nat.reduceAdd, Nat.reduceMul, Nat.reduceLeDiff, Int.reduceEq, Int.reduceLT, Int.reduceLE, Int.reduceAdd, Int.reduceSub, Int.reduceMul, ↓reduceIte, Nat.reduceEqDiff, reduceCtorEq, ↓cnd_true, ↓cnd_false]

theorem law5 (H : AHeap) (args : List AVal) (dats : List Dat) (h : AArgs Try.prog H [2, 2, 2, 2] args dats) : ∃ k H', acall A k 5 args H = some (.bool true, H') := by
  obtain ⟨v0, r, d0, ds, rfl, rfl, h0, h⟩ := args_cons h
  obtain ⟨v1, r, d1, ds, rfl, rfl, h1, h⟩ := args_cons h
  obtain ⟨v2, r, d2, ds, rfl, rfl, h2, h⟩ := args_cons h
  obtain ⟨v3, r, d3, ds, rfl, rfl, h3, h⟩ := args_cons h
  obtain rfl := args_nil h
  obtain ⟨a, rfl, _⟩ := arg_int Try.underlying2 h0
  obtain ⟨b, rfl, _, _, hb⟩ := arg_int Try.underlying2 h1
  obtain ⟨c, rfl, _⟩ := arg_int Try.underlying2 h2
  obtain ⟨d, rfl, _, _, hd⟩ := arg_int Try.underlying2 h3
  simp [IntKind.max, IntKind.signed, IntKind.bits] at hb hd
  obtain ⟨k, hk⟩ := AC_iff.1 (U5 a b c d hb hd H)
  exact ⟨k, H, hk⟩

end Go.Proofs.Ytfpbmoiconopcaa.Ga
