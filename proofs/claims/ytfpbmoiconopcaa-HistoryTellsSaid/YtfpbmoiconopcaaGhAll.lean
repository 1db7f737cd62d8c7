/- The walk of the gauges, for the histories: what each function answers. -/
import Derived.Test.YtfpbmoiconopcaaGaFns
import Derived.Test.YtfpbmoiconopcaaAmSet
import Derived.Test.YtfpbmoiconopcaaAmFl3
import Derived.Test.YtfpbmoiconopcaaAmRng
set_option maxRecDepth 100000
set_option linter.unusedSimpArgs false
set_option linter.unusedVariables false
set_option maxHeartbeats 2000000
namespace Go.Proofs.Ytfpbmoiconopcaa.Gh
open Go Go.Proofs.Ytfpbmoiconopcaa.Am GaFns Go.RowKit

def mode : FuncId → Nat
  | 12 => 1
  | 15 => 1
  | 16 => 1
  | 17 => 1
  | 18 => 1
  | 19 => 1
  | 20 => 1
  | 21 => 1
  | 22 => 1
  | 23 => 1
  | 24 => 1
  | 25 => 2
  | 33 => 1
  | 34 => 2
  | 35 => 2
  | 36 => 2
  | 37 => 2
  | 38 => 2
  | 39 => 2
  | 40 => 2
  | 41 => 2
  | 42 => 2
  | 43 => 2
  | 44 => 2
  | 45 => 2
  | 46 => 2
  | 47 => 2
  | 48 => 2
  | 49 => 2
  | 50 => 2
  | 51 => 2
  | 52 => 1
  | 53 => 1
  | 54 => 1
  | 55 => 1
  | 56 => 1
  | 57 => 1
  | 58 => 1
  | 59 => 1
  | 60 => 1
  | 61 => 1
  | 62 => 1
  | 63 => 1
  | 69 => 1
  | 70 => 2
  | 71 => 1
  | 73 => 1
  | 74 => 1
  | 75 => 2
  | 76 => 1
  | 77 => 1
  | 78 => 1
  | 79 => 1
  | 80 => 1
  | 81 => 1
  | 82 => 1
  | 90 => 1
  | 92 => 1
  | _ => 0
def A : AProg := ⟨GaFns.fn, fun _ => none, mode⟩
theorem A_sound (w0 : World) (B : Nat → Bool) : Sound Try.prog w0 B A := ⟨Try.checked.mixed, GaFns.fn_is, fun f g h => by cases h⟩

theorem U60_is : (arun (acall A 9) A.fn 9 (some GaFns.c60) [.flt .f64 0, .flt .f64 13830554455654793216] noH).map (·.1) = some (.flt .f64 9223372036854775808) := by kernel_rfl
theorem U60 (H : AHeap) : AC A 60 [.flt .f64 0, .flt .f64 13830554455654793216] H = some (.flt .f64 9223372036854775808, H) := one_closed (x := GaFns.c60) rfl rfl rfl rfl rfl U60_is H

theorem U61 (x : Nat) (H : AHeap) : AC A 61 [.flt .f64 x] H = some (.bool (!decide (Fl.num x)), H) := by
  refine one_val (x := GaFns.c61) rfl rfl rfl rfl rfl ?_ H
  simp only [c61, Fl.feq_self, rwA, rwB, Nat.reduceAdd, Nat.reduceMul, Nat.reduceLeDiff, Int.reduceEq, Int.reduceLT, Int.reduceLE, Int.reduceAdd, Int.reduceSub, Int.reduceMul, ↓reduceIte, Nat.reduceEqDiff, reduceCtorEq, ↓cnd_true, ↓cnd_false]

theorem U62 (x : Nat) (H : AHeap) : AC A 62 [.flt .f64 x, .int .i64 1] H = some (.bool (decide (Fl.num x) && decide (Fl.rg x = 9218868437227405312) && !Fl.sg x), H) := by
  refine one_val (x := GaFns.c62) rfl rfl rfl rfl rfl ?_ H
  simp only [c62, rwA, rwB, Nat.reduceAdd, Nat.reduceMul, Nat.reduceLeDiff, Int.reduceEq, Int.reduceLT, Int.reduceLE, Int.reduceAdd, Int.reduceSub, Int.reduceMul, ↓reduceIte, Nat.reduceEqDiff, reduceCtorEq, ↓cnd_true, ↓cnd_false, Fl.fgtr_max]

theorem U62_2 (x : Nat) (H : AHeap) : AC A 62 [.flt .f64 x, .int .i64 (-1)] H = some (.bool (decide (Fl.num x) && decide (Fl.rg x = 9218868437227405312) && Fl.sg x), H) := by
  refine one_val (x := GaFns.c62) rfl rfl rfl rfl rfl ?_ H
  simp only [c62, rwA, rwB, Nat.reduceAdd, Nat.reduceMul, Nat.reduceLeDiff, Int.reduceEq, Int.reduceLT, Int.reduceLE, Int.reduceAdd, Int.reduceSub, Int.reduceMul, ↓reduceIte, Nat.reduceEqDiff, reduceCtorEq, ↓cnd_true, ↓cnd_false, Fl.fgtr_nmax]

theorem U63 (x : Nat) (hx : Fl.num x) (H : AHeap) : AC A 63 [.flt .f64 x] H = some (.bool (Fl.sg x), H) := by
  refine one_val (x := GaFns.c63) rfl rfl rfl rfl rfl ?_ H
  have h : decide (Fl.num x) = true := by simpa using hx
  simp only [c63, h, Fl.wrap_neg, rwA, rwB, Nat.reduceAdd, Nat.reduceMul, Nat.reduceLeDiff, Int.reduceEq, Int.reduceLT, Int.reduceLE, Int.reduceAdd, Int.reduceSub, Int.reduceMul, ↓reduceIte, Nat.reduceEqDiff, reduceCtorEq, ↓cnd_true, ↓cnd_false]

/-- What is used of a limit. -/
def off (a b : Int) : Nat := if b < 0 then 9223372036854775808 else fdiv (fint a) (fint b)
theorem U16 (a b : Int) (H : AHeap) : AC A 16 [.int .i64 a, .int .i64 b] H = some (.flt .f64 (off a b), H) := by
  refine one_val (x := GaFns.c16) rfl rfl rfl rfl rfl ?_ H
  by_cases h : b < 0
  · have h' : decide (b < 0) = true := by simpa using h
    simp only [c16, h', U60, off, if_pos h, rwA, rwB, Nat.reduceAdd, Nat.reduceMul, Nat.reduceLeDiff, Int.reduceEq, Int.reduceLT, Int.reduceLE, Int.reduceAdd, Int.reduceSub, Int.reduceMul, ↓reduceIte, Nat.reduceEqDiff, reduceCtorEq, ↓cnd_true, ↓cnd_false]
  · have h' : decide (b < 0) = false := by simpa using h
    simp only [c16, h', off, if_neg h, rwA, rwB, Nat.reduceAdd, Nat.reduceMul, Nat.reduceLeDiff, Int.reduceEq, Int.reduceLT, Int.reduceLE, Int.reduceAdd, Int.reduceSub, Int.reduceMul, ↓reduceIte, Nat.reduceEqDiff, reduceCtorEq, ↓cnd_true, ↓cnd_false]

theorem fneg_0 : fneg 0 = 9223372036854775808 := by decide
theorem U17 (a b : Int) (H : AHeap) : AC A 17 [.int .i64 a, .int .i64 b] H = some (.flt .f64 (off a b), H) := by
  refine one_val (x := GaFns.c17) rfl rfl rfl rfl rfl ?_ H
  by_cases h : b < 0
  · have h' : decide (b < 0) = true := by simpa using h
    simp only [c17, h', fneg_0, off, if_pos h, rwA, rwB, Nat.reduceAdd, Nat.reduceMul, Nat.reduceLeDiff, Int.reduceEq, Int.reduceLT, Int.reduceLE, Int.reduceAdd, Int.reduceSub, Int.reduceMul, ↓reduceIte, Nat.reduceEqDiff, reduceCtorEq, ↓cnd_true, ↓cnd_false]
  · have h' : decide (b < 0) = false := by simpa using h
    simp only [c17, h', off, if_neg h, rwA, rwB, Nat.reduceAdd, Nat.reduceMul, Nat.reduceLeDiff, Int.reduceEq, Int.reduceLT, Int.reduceLE, Int.reduceAdd, Int.reduceSub, Int.reduceMul, ↓reduceIte, Nat.reduceEqDiff, reduceCtorEq, ↓cnd_true, ↓cnd_false]

theorem U18 (x : Nat) (H : AHeap) : AC A 18 [.flt .f64 x] H = some (.int .i64 (Fl.kd x), H) := by
  refine one_val (x := GaFns.c18) rfl rfl rfl rfl rfl ?_ H
  by_cases hn : Fl.num x
  · have hn' : decide (Fl.num x) = true := by simpa using hn
    have h63 := fun H => U63 x hn H
    cases hs : Fl.sg x <;> by_cases hi : Fl.rg x = 9218868437227405312 <;> by_cases h0 : Fl.rg x = 0 <;>
      simp only [c18, U61, U62, U62_2, h63, Fl.fgtr_0, Fl.flss_0, hn', hs, hi, h0, Fl.kd, if_pos hn, decide_true, decide_false, Bool.not_true, Bool.not_false, Bool.and_true, Bool.and_false, Bool.true_and, Bool.false_and, ne_eq, not_true_eq_false, not_false_eq_true, if_true, if_false, Bool.false_eq_true, rwA, rwB, Nat.reduceAdd, Nat.reduceMul, Nat.reduceLeDiff, Int.reduceEq, Int.reduceLT, Int.reduceLE, Int.reduceAdd, Int.reduceSub, Int.reduceMul, ↓reduceIte, Nat.reduceEqDiff, reduceCtorEq, ↓cnd_true, ↓cnd_false] <;> (try rfl) <;> (try omega)
    all_goals simp_all
  · have hn' : decide (Fl.num x) = false := by simpa using hn
    simp only [c18, U61, hn', Fl.kd, if_neg hn, Bool.not_false, rwA, rwB, Nat.reduceAdd, Nat.reduceMul, Nat.reduceLeDiff, Int.reduceEq, Int.reduceLT, Int.reduceLE, Int.reduceAdd, Int.reduceSub, Int.reduceMul, ↓reduceIte, Nat.reduceEqDiff, reduceCtorEq, ↓cnd_true, ↓cnd_false]

theorem U19 (x : Nat) (H : AHeap) : AC A 19 [.flt .f64 x] H = some (.int .i64 (Fl.kd x), H) := by
  refine one_val (x := GaFns.c19) rfl rfl rfl rfl rfl ?_ H
  by_cases hn : Fl.num x
  · have hn' : decide (Fl.num x) = true := by simpa using hn
    have hn2 : Fl.rg x ≤ 9218868437227405312 := hn
    by_cases h0 : Fl.rg x = 0
    · have e1 : fdiv 4607182418800017408 x = Ieee.double.word (Fl.sg x) 9218868437227405312 := by
        rw [Fl.fdiv_zero (by decide) (by decide) h0, show Fl.sg 4607182418800017408 = false by decide, Bool.false_xor]
      have e2 : flss (Ieee.double.word (Fl.sg x) 9218868437227405312) 0 = Fl.sg x := by
        have hn3 := Fl.num_word (Fl.sg x) (r := 9218868437227405312) (by omega)
        rw [Fl.flss_0, Fl.sg_word _ (by omega), Fl.rg_word _ (by omega)]
        have hd : decide (Fl.num (Ieee.double.word (Fl.sg x) 9218868437227405312)) = true := decide_eq_true hn3
        have hz : decide ((9218868437227405312 : Nat) ≠ 0) = true := decide_eq_true (by omega)
        rw [hd, hz, Bool.true_and, Bool.true_and]
      have e3 : feq x 0 = true := by rw [Fl.feq_0, hn', h0]; rfl
      have hk : Fl.kd x = if Fl.sg x then 2 else 3 := by unfold Fl.kd; rw [if_pos hn, if_neg (by omega), if_pos h0]
      cases hs : Fl.sg x <;> simp only [hs, Bool.false_eq_true, if_true, if_false] at hk e2 e1 <;> simp only [c19, Fl.feq_self, hn', e1, e2, e3, hk, Bool.not_true, rwA, rwB, Nat.reduceAdd, Nat.reduceMul, Nat.reduceLeDiff, Int.reduceEq, Int.reduceLT, Int.reduceLE, Int.reduceAdd, Int.reduceSub, Int.reduceMul, ↓reduceIte, Nat.reduceEqDiff, reduceCtorEq, ↓cnd_true, ↓cnd_false]
    · have e3 : feq x 0 = false := by rw [Fl.feq_0, hn', decide_eq_false h0]; rfl
      have e4 : flss x 0 = Fl.sg x := by rw [Fl.flss_0, hn', decide_eq_true h0]; simp
      by_cases hi : Fl.rg x = 9218868437227405312
      · have e1 : feq (fsub x x) 0 = false := by rw [Fl.fsub_inf hi]; decide
        have hk : Fl.kd x = if Fl.sg x then 0 else 5 := by unfold Fl.kd; rw [if_pos hn, if_pos hi]
        cases hs : Fl.sg x <;> simp only [hs, Bool.false_eq_true, if_true, if_false] at hk e4 <;> simp only [c19, Fl.feq_self, hn', e1, e3, e4, hk, Bool.not_true, Bool.not_false, rwA, rwB, Nat.reduceAdd, Nat.reduceMul, Nat.reduceLeDiff, Int.reduceEq, Int.reduceLT, Int.reduceLE, Int.reduceAdd, Int.reduceSub, Int.reduceMul, ↓reduceIte, Nat.reduceEqDiff, reduceCtorEq, ↓cnd_true, ↓cnd_false]
      · have e1 : feq (fsub x x) 0 = true := by rw [Fl.fsub_self (by omega)]; decide
        have hk : Fl.kd x = if Fl.sg x then 1 else 4 := by unfold Fl.kd; rw [if_pos hn, if_neg hi, if_neg h0]
        cases hs : Fl.sg x <;> simp only [hs, Bool.false_eq_true, if_true, if_false] at hk e4 <;> simp only [c19, Fl.feq_self, hn', e1, e3, e4, hk, Bool.not_true, Bool.not_false, rwA, rwB, Nat.reduceAdd, Nat.reduceMul, Nat.reduceLeDiff, Int.reduceEq, Int.reduceLT, Int.reduceLE, Int.reduceAdd, Int.reduceSub, Int.reduceMul, ↓reduceIte, Nat.reduceEqDiff, reduceCtorEq, ↓cnd_true, ↓cnd_false]
  · have hn' : decide (Fl.num x) = false := by simpa using hn
    have hk : Fl.kd x = 6 := by unfold Fl.kd; rw [if_neg hn]
    simp only [c19, Fl.feq_self, hn', hk, Bool.not_false, rwA, rwB, Nat.reduceAdd, Nat.reduceMul, Nat.reduceLeDiff, Int.reduceEq, Int.reduceLT, Int.reduceLE, Int.reduceAdd, Int.reduceSub, Int.reduceMul, ↓reduceIte, Nat.reduceEqDiff, reduceCtorEq, ↓cnd_true, ↓cnd_false]

theorem kd_same {a b : Nat} (h1 : Fl.kd a = Fl.kd b) (h2 : flss a b = true) : Fl.kd a = 1 ∨ Fl.kd a = 4 := by
  rw [Fl.flss_is] at h2
  simp only [decide_eq_true_eq] at h2
  obtain ⟨ha, hb, h⟩ := h2
  unfold Fl.num at ha hb
  unfold Fl.kd Fl.num at h1 ⊢
  unfold Fl.sr at h
  simp only [ha, hb, if_true] at h1 ⊢
  revert h1 h
  cases Fl.sg a <;> cases Fl.sg b <;> simp only [Bool.false_eq_true, if_true, if_false] <;> (repeat' split) <;> omega
def ahead (a b : Nat) : Bool := decide (Fl.ky a < Fl.ky b)
theorem ahead_is (a b : Nat) : (decide (Fl.kd a < Fl.kd b) || (decide (Fl.kd a = Fl.kd b) && (decide (Fl.kd a = 1) || decide (Fl.kd a = 4)) && flss a b)) = ahead a b := by
  unfold ahead
  rw [← Fl.kd_lt]
  by_cases h : Fl.kd a = Fl.kd b
  · cases hf : flss a b
    · simp
    · have := kd_same h hf
      simp only [h, decide_true, Bool.true_and, Bool.and_true]
      rcases this with k | k <;> rw [h] at k <;> simp [k]
  · simp [h]

theorem U24 (a b : Nat) (H : AHeap) : AC A 24 [.flt .f64 a, .flt .f64 b] H = some (.int .i64 (Fl.ord a b), H) := by
  refine one_val (x := GaFns.c24) rfl rfl rfl rfl rfl ?_ H
  have h := Fl.ord_is a b
  simp only [c24, U18, rwA, rwB, Nat.reduceAdd, Nat.reduceMul, Nat.reduceLeDiff, Int.reduceEq, Int.reduceLT, Int.reduceLE, Int.reduceAdd, Int.reduceSub, Int.reduceMul, ↓reduceIte, Nat.reduceEqDiff, reduceCtorEq, ↓cnd_true, ↓cnd_false]
  by_cases h1 : Fl.kd a < Fl.kd b
  · simp only [h1, if_true] at h
    simp only [h1, h, decide_true, rwA, rwB, Nat.reduceAdd, Nat.reduceMul, Nat.reduceLeDiff, Int.reduceEq, Int.reduceLT, Int.reduceLE, Int.reduceAdd, Int.reduceSub, Int.reduceMul, ↓reduceIte, Nat.reduceEqDiff, reduceCtorEq, ↓cnd_true, ↓cnd_false]
  · by_cases h2 : Fl.kd b < Fl.kd a
    · simp only [h1, h2, if_true, if_false] at h
      simp only [h1, h2, h, decide_true, decide_false, rwA, rwB, Nat.reduceAdd, Nat.reduceMul, Nat.reduceLeDiff, Int.reduceEq, Int.reduceLT, Int.reduceLE, Int.reduceAdd, Int.reduceSub, Int.reduceMul, ↓reduceIte, Nat.reduceEqDiff, reduceCtorEq, ↓cnd_true, ↓cnd_false]
    · cases h3 : flss a b
      · cases h4 : fgtr a b <;> simp only [h1, h2, h3, h4, if_true, if_false, Bool.false_eq_true] at h <;> simp only [h1, h2, h3, h4, h, decide_false, rwA, rwB, Nat.reduceAdd, Nat.reduceMul, Nat.reduceLeDiff, Int.reduceEq, Int.reduceLT, Int.reduceLE, Int.reduceAdd, Int.reduceSub, Int.reduceMul, ↓reduceIte, Nat.reduceEqDiff, reduceCtorEq, ↓cnd_true, ↓cnd_false]
      · simp only [h1, h2, h3, if_true, if_false] at h
        simp only [h1, h2, h3, h, decide_false, rwA, rwB, Nat.reduceAdd, Nat.reduceMul, Nat.reduceLeDiff, Int.reduceEq, Int.reduceLT, Int.reduceLE, Int.reduceAdd, Int.reduceSub, Int.reduceMul, ↓reduceIte, Nat.reduceEqDiff, reduceCtorEq, ↓cnd_true, ↓cnd_false]

theorem U59 (a b : Nat) (H : AHeap) : AC A 59 [.flt .f64 a, .flt .f64 b] H = some (.bool (ahead a b), H) := by
  refine one_val (x := GaFns.c59) rfl rfl rfl rfl rfl ?_ H
  have h := ahead_is a b
  cases e1 : decide (Fl.kd a < Fl.kd b) <;> cases e2 : decide (Fl.kd a = Fl.kd b) <;> cases e3 : decide (Fl.kd a = 1) <;> cases e4 : decide (Fl.kd a = 4) <;> simp only [e1, e2, e3, e4, Bool.false_or, Bool.true_or, Bool.true_and, Bool.false_and, Bool.or_false, Bool.or_true, Bool.or_self] at h <;> simp only [c59, U19, e1, e2, e3, e4, ← h, rwA, rwB, Nat.reduceAdd, Nat.reduceMul, Nat.reduceLeDiff, Int.reduceEq, Int.reduceLT, Int.reduceLE, Int.reduceAdd, Int.reduceSub, Int.reduceMul, ↓reduceIte, Nat.reduceEqDiff, reduceCtorEq, ↓cnd_true, ↓cnd_false]

/-- Alike. -/
def alike (a b : Nat) : Bool := decide (Fl.ky a = Fl.ky b)
theorem U15 (a b : Nat) (H : AHeap) : AC A 15 [.flt .f64 a, .flt .f64 b] H = some (.bool (alike a b), H) := by
  refine one_val (x := GaFns.c15) rfl rfl rfl rfl rfl ?_ H
  simp only [c15, U59, rwA, rwB, Nat.reduceAdd, Nat.reduceMul, Nat.reduceLeDiff, Int.reduceEq, Int.reduceLT, Int.reduceLE, Int.reduceAdd, Int.reduceSub, Int.reduceMul, ↓reduceIte, Nat.reduceEqDiff, reduceCtorEq, ↓cnd_true, ↓cnd_false]
  cases h1 : ahead a b <;> cases h2 : ahead b a <;> simp only [h1, h2, rwA, rwB, Nat.reduceAdd, Nat.reduceMul, Nat.reduceLeDiff, Int.reduceEq, Int.reduceLT, Int.reduceLE, Int.reduceAdd, Int.reduceSub, Int.reduceMul, ↓reduceIte, Nat.reduceEqDiff, reduceCtorEq, ↓cnd_true, ↓cnd_false] <;> simp only [ahead, decide_eq_true_eq, decide_eq_false_iff_not] at h1 h2 <;> simp [alike] <;> omega

/-! ### Thousandths -/
def T : Nat := 4652007308841189376
def M6 : Nat := 4696837146684686336
theorem T_fint : fint 1000 = T := by decide +kernel
theorem M6_fint : fint 1000000 = M6 := by decide +kernel
theorem T_u : Fl.u (Fl.rg T) = 1000 * Fl.one := by have := (Fl.fint_u (n := 1000) (by decide)).1; rw [T_fint, show (1000 : Int).natAbs = 1000 from rfl] at this; exact this
theorem M6_u : Fl.u (Fl.rg M6) = 1000000 * Fl.one := by have := (Fl.fint_u (n := 1000000) (by decide)).1; rw [M6_fint, show (1000000 : Int).natAbs = 1000000 from rfl] at this; exact this
theorem T_fin : Fl.rg T < 9218868437227405312 := by decide
theorem M6_fin : Fl.rg M6 < 9218868437227405312 := by decide
/-- A number's thousandths. -/
def th (x : Nat) : Int := ((Fl.u (Fl.rg (fmul x T)) / Fl.one : Nat) : Int)
def pm (x : Nat) : Int := if Fl.num x then (if Fl.sg x then 0 else if Fl.rg T ≤ Fl.rg x then 1000000 else th x) else -1
theorem fmul_T {x : Nat} (hx : Fl.rg x < Fl.rg T) (hs : Fl.sg x = false) : Fl.sg (fmul x T) = false ∧ Fl.rg (fmul x T) = Fl.rn (Fl.u (Fl.rg x) * Fl.u (Fl.rg T)) Fl.one ∧ Fl.rg (fmul x T) ≤ Fl.rg M6 := by
  have hT := T_fin
  rw [Fl.fmul_is (by omega) hT, Fl.sg_word _ (Fl.rn_lt _ _), Fl.rg_word _ (Fl.rn_lt _ _), hs]
  refine ⟨by decide, rfl, ?_⟩
  have hm := Fl.rn_mono (N := Fl.u (Fl.rg x) * Fl.u (Fl.rg T)) (D := Fl.one) (N' := Fl.u (Fl.rg M6)) (D' := 1) Fl.one_pos (by omega) (by
    rw [T_u, M6_u, Nat.mul_one, Nat.mul_assoc 1000000]
    have h1 : Fl.u (Fl.rg x) ≤ 1000 * Fl.one := by rw [← T_u]; exact Fl.u_le_iff.2 (by omega)
    calc _ ≤ 1000 * Fl.one * (1000 * Fl.one) := Nat.mul_le_mul_right _ h1
      _ = _ := by rw [Nat.mul_mul_mul_comm])
  rwa [Fl.rn_u (by have := M6_fin; omega)] at hm
theorem th_range {x : Nat} (hx : Fl.rg x < Fl.rg T) (hs : Fl.sg x = false) : 0 ≤ th x ∧ th x ≤ 1000000 := by
  unfold th
  have h := (fmul_T hx hs).2.2
  refine ⟨Int.natCast_nonneg _, ?_⟩
  have h1 := Fl.u_le_iff.2 h
  rw [M6_u] at h1
  have := Nat.div_le_div_right (c := Fl.one) h1
  rw [Nat.mul_div_cancel _ Fl.one_pos] at this
  omega
theorem fToI_T {x : Nat} (hx : Fl.rg x < Fl.rg T) (hs : Fl.sg x = false) : floatToIntVal .f64 (fmul x T) .i64 = some (th x) := by
  obtain ⟨h1, h2, h3⟩ := fmul_T hx hs
  have hi := Fl.toInt_eq (x := fmul x T) (by have := M6_fin; omega)
  rw [h1] at hi
  have e : FloatKind.decode .f64 (fmul x T) = Ieee.double.read (fmul x T) := rfl
  obtain ⟨r1, r2⟩ := th_range hx hs
  unfold th at r1 r2 ⊢
  simp only [floatToIntVal, e, hi, Bool.false_eq_true, if_false]
  rw [if_pos ⟨by simp [IntKind.min, IntKind.signed, IntKind.bits]; omega, by simp [IntKind.max, IntKind.signed, IntKind.bits]; omega⟩]
theorem ge_T (x : Nat) : (fgtr x 4652007308841189376 || feq x 4652007308841189376) = (decide (Fl.num x) && !Fl.sg x && decide (Fl.rg T ≤ Fl.rg x)) := by
  rw [Fl.fgtr_is, Fl.feq_is, Bool.eq_iff_iff]
  have h1 : Fl.num 4652007308841189376 := by decide
  have h2 : Fl.sr 4652007308841189376 = 4652007308841189376 := by decide
  have h3 : Fl.rg T = 4652007308841189376 := by decide
  simp only [h1, h2, h3, true_and, Bool.and_eq_true, decide_eq_true_eq, Bool.not_eq_true', Bool.or_eq_true]
  unfold Fl.num Fl.sr
  cases Fl.sg x <;> simp <;> omega

theorem U20 (x : Nat) (H : AHeap) : AC A 20 [.flt .f64 x] H = some (.int .i64 (pm x), H) := by
  refine one_val (x := GaFns.c20) rfl rfl rfl rfl rfl ?_ H
  by_cases hn : Fl.num x
  · have hn' : decide (Fl.num x) = true := by simpa using hn
    by_cases hT : Fl.rg T ≤ Fl.rg x
    · cases hs : Fl.sg x <;> simp only [c20, U61, ge_T, Fl.fgtr_0, hn', hT, hs, pm, if_pos hn, if_pos hT, decide_true, decide_false, Bool.not_true, Bool.not_false, Bool.and_true, Bool.and_false, if_true, if_false, Bool.false_eq_true, rwA, rwB, Nat.reduceAdd, Nat.reduceMul, Nat.reduceLeDiff, Int.reduceEq, Int.reduceLT, Int.reduceLE, Int.reduceAdd, Int.reduceSub, Int.reduceMul, ↓reduceIte, Nat.reduceEqDiff, reduceCtorEq, ↓cnd_true, ↓cnd_false]
    · cases hs : Fl.sg x
      · have hf := fToI_T (x := x) (by omega) hs
        simp only [T] at hf
        by_cases h0 : Fl.rg x = 0
        · have e0 : th x = 0 := by
            unfold th
            rw [(fmul_T (by omega) hs).2.1, h0, Fl.u_zero, Nat.zero_mul, Fl.rn_zero, Fl.u_zero, Nat.zero_div]; rfl
          have hT1 : ¬ Fl.rg T = 0 := by decide
          simp only [hT1, Nat.le_zero_eq, c20, U61, ge_T, Fl.fgtr_0, hn', hT, hs, h0, e0, pm, if_pos hn, if_neg hT, decide_true, decide_false, Bool.not_true, Bool.not_false, Bool.and_true, Bool.and_false, ne_eq, not_true_eq_false, if_true, if_false, Bool.false_eq_true, rwA, rwB, Nat.reduceAdd, Nat.reduceMul, Nat.reduceLeDiff, Int.reduceEq, Int.reduceLT, Int.reduceLE, Int.reduceAdd, Int.reduceSub, Int.reduceMul, ↓reduceIte, Nat.reduceEqDiff, reduceCtorEq, ↓cnd_true, ↓cnd_false]
        · simp only [c20, U61, ge_T, Fl.fgtr_0, hn', hT, hs, h0, hf, pm, if_pos hn, if_neg hT, decide_true, decide_false, Bool.not_true, Bool.not_false, Bool.and_true, Bool.and_false, ne_eq, not_false_eq_true, if_true, if_false, Bool.false_eq_true, rwA, rwB, Nat.reduceAdd, Nat.reduceMul, Nat.reduceLeDiff, Int.reduceEq, Int.reduceLT, Int.reduceLE, Int.reduceAdd, Int.reduceSub, Int.reduceMul, ↓reduceIte, Nat.reduceEqDiff, reduceCtorEq, ↓cnd_true, ↓cnd_false]
      · simp only [c20, U61, ge_T, Fl.fgtr_0, hn', hT, hs, pm, if_pos hn, if_neg hT, decide_true, decide_false, Bool.not_true, Bool.not_false, Bool.and_true, Bool.and_false, if_true, if_false, Bool.false_eq_true, rwA, rwB, Nat.reduceAdd, Nat.reduceMul, Nat.reduceLeDiff, Int.reduceEq, Int.reduceLT, Int.reduceLE, Int.reduceAdd, Int.reduceSub, Int.reduceMul, ↓reduceIte, Nat.reduceEqDiff, reduceCtorEq, ↓cnd_true, ↓cnd_false]
  · have hn' : decide (Fl.num x) = false := by simpa using hn
    simp only [c20, U61, hn', pm, if_neg hn, Bool.not_false, rwA, rwB, Nat.reduceAdd, Nat.reduceMul, Nat.reduceLeDiff, Int.reduceEq, Int.reduceLT, Int.reduceLE, Int.reduceAdd, Int.reduceSub, Int.reduceMul, ↓reduceIte, Nat.reduceEqDiff, reduceCtorEq, ↓cnd_true, ↓cnd_false]

theorem kd_num (x : Nat) : decide (Fl.kd x = 6) = !decide (Fl.num x) := by
  unfold Fl.kd
  by_cases h : Fl.num x
  · simp only [h, if_true, decide_true, Bool.not_true]; (repeat' split) <;> decide
  · simp [h]

theorem U21 (x : Nat) (H : AHeap) : AC A 21 [.flt .f64 x] H = some (.int .i64 (pm x), H) := by
  refine one_val (x := GaFns.c21) rfl rfl rfl rfl rfl ?_ H
  by_cases hn : Fl.num x
  · have hn' : decide (Fl.num x) = true := by simpa using hn
    have h6 := kd_num x
    rw [hn'] at h6
    by_cases h4 : Fl.kd x < 4
    · have e : pm x = 0 := by
        unfold pm
        rw [if_pos hn]
        unfold Fl.kd at h4
        rw [if_pos hn] at h4
        cases hs : Fl.sg x
        · simp only [hs, Bool.false_eq_true, if_false] at h4 ⊢
          have h0 : Fl.rg x = 0 := by
            by_cases h0 : Fl.rg x = 0
            · exact h0
            · simp only [h0, if_false] at h4; split at h4 <;> omega
          have hT : ¬ Fl.rg T ≤ Fl.rg x := by rw [h0]; decide
          rw [if_neg hT]
          unfold th
          rw [(fmul_T (by omega) hs).2.1, h0, Fl.u_zero, Nat.zero_mul, Fl.rn_zero, Fl.u_zero, Nat.zero_div]; rfl
        · rfl
      have h4' : decide (Fl.kd x < 4) = true := by simpa using h4
      simp only [c21, U19, h6, h4', e, Bool.not_true, rwA, rwB, Nat.reduceAdd, Nat.reduceMul, Nat.reduceLeDiff, Int.reduceEq, Int.reduceLT, Int.reduceLE, Int.reduceAdd, Int.reduceSub, Int.reduceMul, ↓reduceIte, Nat.reduceEqDiff, reduceCtorEq, ↓cnd_true, ↓cnd_false]
    · have h4' : decide (Fl.kd x < 4) = false := by simpa using h4
      have hs : Fl.sg x = false := by
        cases hs : Fl.sg x
        · rfl
        · unfold Fl.kd at h4; rw [if_pos hn, hs] at h4; simp only [if_true] at h4; (repeat' split at h4) <;> omega
      by_cases hT : Fl.rg T ≤ Fl.rg x
      · simp only [c21, U19, h6, h4', ge_T, hn', hs, hT, pm, if_pos hn, if_pos hT, decide_true, Bool.not_true, Bool.not_false, Bool.and_true, if_false, Bool.false_eq_true, rwA, rwB, Nat.reduceAdd, Nat.reduceMul, Nat.reduceLeDiff, Int.reduceEq, Int.reduceLT, Int.reduceLE, Int.reduceAdd, Int.reduceSub, Int.reduceMul, ↓reduceIte, Nat.reduceEqDiff, reduceCtorEq, ↓cnd_true, ↓cnd_false]
      · have hf := fToI_T (x := x) (by omega) hs
        simp only [T] at hf
        simp only [c21, U19, h6, h4', ge_T, hn', hs, hT, hf, pm, if_pos hn, if_neg hT, decide_true, decide_false, Bool.not_true, Bool.not_false, Bool.and_true, Bool.and_false, if_false, Bool.false_eq_true, rwA, rwB, Nat.reduceAdd, Nat.reduceMul, Nat.reduceLeDiff, Int.reduceEq, Int.reduceLT, Int.reduceLE, Int.reduceAdd, Int.reduceSub, Int.reduceMul, ↓reduceIte, Nat.reduceEqDiff, reduceCtorEq, ↓cnd_true, ↓cnd_false]
  · have hn' : decide (Fl.num x) = false := by simpa using hn
    have h6 := kd_num x
    rw [hn'] at h6
    simp only [c21, U19, h6, pm, if_neg hn, Bool.not_false, rwA, rwB, Nat.reduceAdd, Nat.reduceMul, Nat.reduceLeDiff, Int.reduceEq, Int.reduceLT, Int.reduceLE, Int.reduceAdd, Int.reduceSub, Int.reduceMul, ↓reduceIte, Nat.reduceEqDiff, reduceCtorEq, ↓cnd_true, ↓cnd_false]

/-- From an old one to a newer one. -/
def step (a b : Nat) (k : Int) : Nat := fadd a (fdiv (fsub b a) (fint (if k < 1 then 1 else k)))
def blend (a b : Nat) (k : Int) : Nat := if Fl.num a then (if Fl.num b then (if Fl.num (step a b k) then step a b k else b) else a) else b
theorem max1 (k : Int) : (if k < 1 then (1 : Int) else k) = (if 1 > k then 1 else k) := rfl

theorem U22 (a b : Nat) (k : Int) (H : AHeap) : AC A 22 [.flt .f64 a, .flt .f64 b, .int .i64 k] H = some (.flt .f64 (blend a b k), H) := by
  refine one_val (x := GaFns.c22) rfl rfl rfl rfl rfl ?_ H
  by_cases ha : Fl.num a
  · by_cases hb : Fl.num b
    · have hm : (max k 1 : Int) = if k < 1 then 1 else k := by split <;> omega
      by_cases hx : Fl.num (step a b k) <;> (have hx' := hx; unfold step at hx') <;> simp only [c22, U61, ha, hb, hm, hx', hx, blend, step, if_pos, if_neg, if_true, if_false, not_false_eq_true, decide_true, decide_false, Bool.not_true, Bool.not_false, rwA, rwB, Nat.reduceAdd, Nat.reduceMul, Nat.reduceLeDiff, Int.reduceEq, Int.reduceLT, Int.reduceLE, Int.reduceAdd, Int.reduceSub, Int.reduceMul, ↓reduceIte, Nat.reduceEqDiff, reduceCtorEq, ↓cnd_true, ↓cnd_false]
    · simp only [c22, U61, ha, hb, blend, if_true, if_false, decide_true, decide_false, Bool.not_true, Bool.not_false, rwA, rwB, Nat.reduceAdd, Nat.reduceMul, Nat.reduceLeDiff, Int.reduceEq, Int.reduceLT, Int.reduceLE, Int.reduceAdd, Int.reduceSub, Int.reduceMul, ↓reduceIte, Nat.reduceEqDiff, reduceCtorEq, ↓cnd_true, ↓cnd_false]
  · simp only [c22, U61, ha, blend, if_false, decide_false, Bool.not_false, rwA, rwB, Nat.reduceAdd, Nat.reduceMul, Nat.reduceLeDiff, Int.reduceEq, Int.reduceLT, Int.reduceLE, Int.reduceAdd, Int.reduceSub, Int.reduceMul, ↓reduceIte, Nat.reduceEqDiff, reduceCtorEq, ↓cnd_true, ↓cnd_false]

theorem U23 (a b : Nat) (k : Int) (H : AHeap) : AC A 23 [.flt .f64 a, .flt .f64 b, .int .i64 k] H = some (.flt .f64 (blend a b k), H) := by
  refine one_val (x := GaFns.c23) rfl rfl rfl rfl rfl ?_ H
  by_cases ha : Fl.num a
  · by_cases hb : Fl.num b
    · by_cases hk : k < 1 <;> by_cases hx : Fl.num (step a b k) <;> (have hx' := hx; unfold step at hx') <;> simp only [hk, if_true, if_false] at hx' <;> simp only [c23, U19, kd_num, ha, hb, hk, hx', hx, blend, step, if_true, if_false, decide_true, decide_false, Bool.not_true, Bool.not_false, rwA, rwB, Nat.reduceAdd, Nat.reduceMul, Nat.reduceLeDiff, Int.reduceEq, Int.reduceLT, Int.reduceLE, Int.reduceAdd, Int.reduceSub, Int.reduceMul, ↓reduceIte, Nat.reduceEqDiff, reduceCtorEq, ↓cnd_true, ↓cnd_false]
    · simp only [c23, U19, kd_num, ha, hb, blend, if_true, if_false, decide_true, decide_false, Bool.not_true, Bool.not_false, rwA, rwB, Nat.reduceAdd, Nat.reduceMul, Nat.reduceLeDiff, Int.reduceEq, Int.reduceLT, Int.reduceLE, Int.reduceAdd, Int.reduceSub, Int.reduceMul, ↓reduceIte, Nat.reduceEqDiff, reduceCtorEq, ↓cnd_true, ↓cnd_false]
  · simp only [c23, U19, kd_num, ha, blend, if_false, decide_false, Bool.not_false, rwA, rwB, Nat.reduceAdd, Nat.reduceMul, Nat.reduceLeDiff, Int.reduceEq, Int.reduceLT, Int.reduceLE, Int.reduceAdd, Int.reduceSub, Int.reduceMul, ↓reduceIte, Nat.reduceEqDiff, reduceCtorEq, ↓cnd_true, ↓cnd_false]

theorem arg_flt {P : Program} {H : AHeap} {t : TypeId} {v : AVal} {d : Dat} (hu : P.underlying t = some (.float .f64)) (h : AArg P H t v d) : ∃ b, v = .flt .f64 b := by
  obtain ⟨fuel, cs, hr, hc⟩ := h
  rw [hu] at hc
  simp only at hc
  cases fuel with
  | zero => simp [AReads] at hr
  | succ f =>
    simp only [AReads, hu] at hr
    obtain ⟨b, rfl, rfl⟩ := hr
    simp at hc
    exact ⟨b, hc.symm⟩

/-! ### Fuller -/
theorem off_facts {a b : Int} (ha : 0 ≤ a) (ha' : a ≤ 9223372036854775807) (hb : 1 ≤ b) (hb' : b ≤ 9223372036854775807) :
    Fl.num (off a b) ∧ Fl.sg (off a b) = false ∧ Fl.rg (off a b) = Fl.rn (Fl.u (Fl.rg (fint a)) * Fl.one) (Fl.u (Fl.rg (fint b))) := by
  have h1 : Fl.rg (fint a) < 9218868437227405312 := Fl.fint_lt_inf (by rw [show (2:Nat) ^ 64 = 18446744073709551616 by decide]; omega)
  have h2 : Fl.rg (fint b) < 9218868437227405312 := Fl.fint_lt_inf (by rw [show (2:Nat) ^ 64 = 18446744073709551616 by decide]; omega)
  have h3 : 0 < Fl.rg (fint b) := Fl.fint_pos (by omega)
  unfold off
  rw [if_neg (by omega), Fl.fdiv_is h1 h3 h2, Fl.fint_sg, Fl.fint_sg, decide_eq_false (show ¬ a < 0 by omega), decide_eq_false (show ¬ b < 0 by omega)]
  exact ⟨Fl.num_word _ (Fl.rn_le_inf _ _), Fl.sg_word _ (Fl.rn_lt _ _), Fl.rg_word _ (Fl.rn_lt _ _)⟩
theorem fint_rg_mono {a b : Int} (h : a ≤ b) (ha : 0 ≤ a) : Fl.rg (fint a) ≤ Fl.rg (fint b) := by
  have := Fl.fint_mono h
  unfold Fl.sr at this
  rw [Fl.fint_sg, Fl.fint_sg, decide_eq_false (show ¬ a < 0 by omega), decide_eq_false (show ¬ b < 0 by omega)] at this
  simpa using this
theorem off_mono {a a' b b' : Int} (h1 : 0 ≤ a) (h2 : a ≤ a') (h3 : a' ≤ 9223372036854775807) (h4 : 1 ≤ b') (h5 : b' ≤ b) (h6 : b ≤ 9223372036854775807) : Fl.rg (off a b) ≤ Fl.rg (off a' b') := by
  rw [(off_facts h1 (by omega) (by omega) h6).2.2, (off_facts (by omega) h3 h4 (by omega)).2.2]
  have p1 : 0 < Fl.u (Fl.rg (fint b)) := Fl.u_pos (Fl.fint_pos (by omega))
  have p2 : 0 < Fl.u (Fl.rg (fint b')) := Fl.u_pos (Fl.fint_pos (by omega))
  refine Fl.rn_mono p1 p2 ?_
  have m1 := Fl.u_le_iff.2 (fint_rg_mono h2 h1)
  have m2 := Fl.u_le_iff.2 (fint_rg_mono h5 (by omega))
  exact Nat.mul_le_mul (Nat.mul_le_mul_right _ m1) m2

theorem ord_of_rg {x y : Nat} (hx : Fl.num x) (hy : Fl.num y) (sx : Fl.sg x = false) (sy : Fl.sg y = false) (h : Fl.rg x ≤ Fl.rg y) : Fl.ord x y ≤ 0 := by
  rw [Fl.ord_le]
  unfold Fl.ky
  rw [if_pos hx, if_pos hy, sx, sy]
  simpa using h
theorem pm_mono {x y : Nat} (hx : Fl.num x) (hy : Fl.num y) (sx : Fl.sg x = false) (sy : Fl.sg y = false) (h : Fl.rg x ≤ Fl.rg y) : pm x ≤ pm y := by
  unfold pm
  rw [if_pos hx, if_pos hy, sx, sy]
  simp only [Bool.false_eq_true, if_false]
  by_cases h1 : Fl.rg T ≤ Fl.rg x
  · rw [if_pos h1, if_pos (by omega)]; omega
  · rw [if_neg h1]
    by_cases h2 : Fl.rg T ≤ Fl.rg y
    · rw [if_pos h2]; exact (th_range (by omega) sx).2
    · rw [if_neg h2]
      unfold th
      rw [(fmul_T (by omega) sx).2.1, (fmul_T (by omega) sy).2.1]
      have m := Fl.u_le_iff.2 h
      have r := Fl.rn_mono (N := Fl.u (Fl.rg x) * Fl.u (Fl.rg T)) (D := Fl.one) (N' := Fl.u (Fl.rg y) * Fl.u (Fl.rg T)) (D' := Fl.one) Fl.one_pos Fl.one_pos (Nat.mul_le_mul_right _ (Nat.mul_le_mul_right _ m))
      have r2 := Nat.div_le_div_right (c := Fl.one) (Fl.u_le_iff.2 r)
      omega
end Go.Proofs.Ytfpbmoiconopcaa.Gh
