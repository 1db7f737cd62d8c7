/- Counts (tally): what each function answers. -/
import Derived.Test.YtfpbmoiconopcaaGhAll
import Derived.Test.YtfpbmoiconopcaaAmExt
set_option maxRecDepth 100000
set_option linter.unusedSimpArgs false
set_option linter.unusedVariables false
set_option maxHeartbeats 2000000
namespace Go.Proofs.Ytfpbmoiconopcaa.Gh
open Go Go.Proofs.Ytfpbmoiconopcaa.Am GaFns Go.RowKit

/-- A number counts; may be a limit. -/
def cnt (a : Int) : Bool := decide (0 ≤ a) && decide (a ≤ 1125899906842624)
def bnd (a : Int) : Bool := decide (a = -1) || cnt a
def within1 (a : Int) : Int := if cnt a then a else 0
def within2 (a : Int) : Int := if cnt a then 0 else 15
def add1 (a b : Int) : Int := if cnt a && cnt b && cnt (a + b) then a + b else 0
def add2 (a b : Int) : Int := if cnt a && cnt b then (if cnt (a + b) then 0 else 15) else 18
def check (a b : Int) : Int := if cnt a && cnt b then 0 else 18
def checkL (a b : Int) : Int := if bnd a && bnd b then 0 else 18
def over (o n l : Int) : Bool := decide (o < n) && (!decide (l = -1)) && decide (l < n)
def grows (o1 o2 n1 n2 l1 l2 : Int) : Int := if cnt o1 && cnt o2 && cnt n1 && cnt n2 && bnd l1 && bnd l2 then (if over o1 n1 l1 || over o2 n2 l2 then 12 else 0) else 18
def lim (l : Int) : Int := if l = -1 then 1125899906842624 else l
def left (u l : Int) : Int := if cnt u && cnt (lim l) then (if lim l - u < 0 then 0 else lim l - u) else 0

theorem U81 (a : Int) (H : AHeap) : AC A 81 [.int .i64 a] H = some (.bool (cnt a), H) := by
  refine one_val (x := GaFns.c81) rfl rfl rfl rfl rfl ?_ H
  cases h : decide (0 ≤ a) <;> simp only [c81, h, rwA, rwB, Nat.reduceAdd, Nat.reduceMul, Nat.reduceLeDiff, Int.reduceEq, Int.reduceLT, Int.reduceLE, Int.reduceAdd, Int.reduceSub, Int.reduceMul, ↓reduceIte, Nat.reduceEqDiff, reduceCtorEq, ↓cnd_true, ↓cnd_false] <;> simp [cnt, h]

theorem U80 (a b c : Int) (H : AHeap) : AC A 80 [.int .i64 a, .int .i64 b, .int .i64 c] H = some (.bool (over a b c), H) := by
  refine one_val (x := GaFns.c80) rfl rfl rfl rfl rfl ?_ H
  cases h : decide (a < b) <;> cases h2 : decide (c = -1) <;> simp only [c80, h, h2, rwA, rwB, Nat.reduceAdd, Nat.reduceMul, Nat.reduceLeDiff, Int.reduceEq, Int.reduceLT, Int.reduceLE, Int.reduceAdd, Int.reduceSub, Int.reduceMul, ↓reduceIte, Nat.reduceEqDiff, reduceCtorEq, ↓cnd_true, ↓cnd_false] <;> simp [over, h, h2]

theorem U82 (a : Int) (H : AHeap) : AC A 82 [.int .i64 a] H = some (.tuple [.int .i64 (within1 a), .int .i64 (within2 a)], H) := by
  refine one_val (x := GaFns.c82) rfl rfl rfl rfl rfl ?_ H
  cases h : cnt a <;> simp only [c82, U81, U80, h, rwA, rwB, Nat.reduceAdd, Nat.reduceMul, Nat.reduceLeDiff, Int.reduceEq, Int.reduceLT, Int.reduceLE, Int.reduceAdd, Int.reduceSub, Int.reduceMul, ↓reduceIte, Nat.reduceEqDiff, reduceCtorEq, ↓cnd_true, ↓cnd_false] <;> simp [within1, within2, h]

theorem U92 (a : Int) (H : AHeap) : AC A 92 [.int .i64 a] H = some (.bool (bnd a), H) := by
  refine one_val (x := GaFns.c92) rfl rfl rfl rfl rfl ?_ H
  cases h : decide (a = -1) <;> simp only [c92, U81, U80, U82, h, rwA, rwB, Nat.reduceAdd, Nat.reduceMul, Nat.reduceLeDiff, Int.reduceEq, Int.reduceLT, Int.reduceLE, Int.reduceAdd, Int.reduceSub, Int.reduceMul, ↓reduceIte, Nat.reduceEqDiff, reduceCtorEq, ↓cnd_true, ↓cnd_false] <;> simp [bnd, h]

theorem U78 (a b : Int) (H : AHeap) : AC A 78 [.agg [.int .i64 a, .int .i64 b]] H = some (.int .i64 (check a b), H) := by
  refine one_val (x := GaFns.c78) rfl rfl rfl rfl rfl ?_ H
  cases h : cnt a <;> cases h2 : cnt b <;> simp only [c78, U81, U80, U82, U92, h, h2, rwA, rwB, Nat.reduceAdd, Nat.reduceMul, Nat.reduceLeDiff, Int.reduceEq, Int.reduceLT, Int.reduceLE, Int.reduceAdd, Int.reduceSub, Int.reduceMul, ↓reduceIte, Nat.reduceEqDiff, reduceCtorEq, ↓cnd_true, ↓cnd_false] <;> simp [check, h, h2]

theorem U79 (a b : Int) (H : AHeap) : AC A 79 [.agg [.int .i64 a, .int .i64 b]] H = some (.int .i64 (checkL a b), H) := by
  refine one_val (x := GaFns.c79) rfl rfl rfl rfl rfl ?_ H
  cases h : bnd a <;> cases h2 : bnd b <;> simp only [c79, U81, U80, U82, U92, U78, h, h2, rwA, rwB, Nat.reduceAdd, Nat.reduceMul, Nat.reduceLeDiff, Int.reduceEq, Int.reduceLT, Int.reduceLE, Int.reduceAdd, Int.reduceSub, Int.reduceMul, ↓reduceIte, Nat.reduceEqDiff, reduceCtorEq, ↓cnd_true, ↓cnd_false] <;> simp [checkL, h, h2]

theorem U56 (a b : Int) (H : AHeap) : AC A 56 [.int .i64 a, .int .i64 b] H = some (.tuple [.int .i64 (add1 a b), .int .i64 (add2 a b)], H) := by
  refine one_val (x := GaFns.c56) rfl rfl rfl rfl rfl ?_ H
  cases ha : cnt a <;> cases hb : cnt b <;> simp only [c56, U81, U80, U82, U92, U78, U79, ha, hb, rwA, rwB, Nat.reduceAdd, Nat.reduceMul, Nat.reduceLeDiff, Int.reduceEq, Int.reduceLT, Int.reduceLE, Int.reduceAdd, Int.reduceSub, Int.reduceMul, ↓reduceIte, Nat.reduceEqDiff, reduceCtorEq, ↓cnd_true, ↓cnd_false] <;> simp [add1, add2, ha, hb]
  have : IntKind.i64.wrap (a + b) = a + b := by simp [cnt] at ha hb; rw [wrap_i64]; omega
  simp [this, within1, within2]

theorem U54 (a b c d e f : Int) (H : AHeap) : AC A 54 [.agg [.int .i64 a, .int .i64 b], .agg [.int .i64 c, .int .i64 d], .agg [.int .i64 e, .int .i64 f]] H = some (.int .i64 (grows a b c d e f), H) := by
  refine one_val (x := GaFns.c54) rfl rfl rfl rfl rfl ?_ H
  have e1 : decide (check a b = 0) = (cnt a && cnt b) := by unfold check; split <;> simp_all
  have e2 : decide (check c d = 0) = (cnt c && cnt d) := by unfold check; split <;> simp_all
  have e3 : decide (checkL e f = 0) = (bnd e && bnd f) := by unfold checkL; split <;> simp_all
  cases h1 : cnt a && cnt b <;> cases h2 : cnt c && cnt d <;> cases h3 : bnd e && bnd f <;> rw [h1] at e1 <;> rw [h2] at e2 <;> rw [h3] at e3
  case true.true.true =>
    simp only [Bool.and_eq_true] at h1 h2 h3
    have hg : grows a b c d e f = if over a c e || over b d f then 12 else 0 := by simp only [grows, h1.1, h1.2, h2.1, h2.2, h3.1, h3.2, Bool.and_self, if_true]
    rw [hg]
    simp only [c54, U81, U80, U82, U92, U78, U79, U56, e1, e2, e3, h1.1, h1.2, h2.1, h2.2, h3.1, h3.2, Bool.and_self, if_true, rwA, rwB, Nat.reduceAdd, Nat.reduceMul, Nat.reduceLeDiff, Int.reduceEq, Int.reduceLT, Int.reduceLE, Int.reduceAdd, Int.reduceSub, Int.reduceMul, ↓reduceIte, Nat.reduceEqDiff, reduceCtorEq, ↓cnd_true, ↓cnd_false]
    cases k1 : decide (a = c) <;> cases k2 : decide (b = d)
    case true.true =>
      have a1 : a = c := by simpa using k1
      have a2 : b = d := by simpa using k2
      subst a1 a2
      simp [k1, k2, over, ans_some]
    all_goals
      cases k3 : over a c e <;> cases k4 : over b d f <;> simp only [k1, k2, k3, k4, Bool.and_true, Bool.and_false, Bool.and_self, Bool.or_true, Bool.or_false, Bool.or_self, if_true, if_false, Bool.false_eq_true, U81, U80, U82, U92, U78, U79, U56, rwA, rwB, Nat.reduceAdd, Nat.reduceMul, Nat.reduceLeDiff, Int.reduceEq, Int.reduceLT, Int.reduceLE, Int.reduceAdd, Int.reduceSub, Int.reduceMul, ↓reduceIte, Nat.reduceEqDiff, reduceCtorEq, ↓cnd_true, ↓cnd_false]
  all_goals
    have e0 : (cnt a && cnt b && cnt c && cnt d && bnd e && bnd f) = false := by
      rw [show (cnt a && cnt b && cnt c && cnt d && bnd e && bnd f) = ((cnt a && cnt b) && (cnt c && cnt d) && (bnd e && bnd f)) by simp only [Bool.and_assoc], h1, h2, h3]; rfl
    have hg : grows a b c d e f = 18 := by unfold grows; rw [e0]; rfl
    simp only [c54, U81, U80, U82, U92, U78, U79, U56, e1, e2, e3, hg, rwA, rwB, Nat.reduceAdd, Nat.reduceMul, Nat.reduceLeDiff, Int.reduceEq, Int.reduceLT, Int.reduceLE, Int.reduceAdd, Int.reduceSub, Int.reduceMul, ↓reduceIte, Nat.reduceEqDiff, reduceCtorEq, ↓cnd_true, ↓cnd_false]

theorem U55 (u l : Int) (H : AHeap) : AC A 55 [.int .i64 u, .int .i64 l] H = some (.int .i64 (left u l), H) := by
  refine one_val (x := GaFns.c55) rfl rfl rfl rfl rfl ?_ H
  have hm : decide (l = -1) = true ∨ decide (l = -1) = false := by cases decide (l = -1) <;> simp
  have key : ∀ m : Int, cnt u = true → cnt m = true → (if 0 > IntKind.i64.wrap (m - u) then (0 : Int) else IntKind.i64.wrap (m - u)) = (if m - u < 0 then 0 else m - u) := by
    intro m h1 h2
    have : IntKind.i64.wrap (m - u) = m - u := by simp [cnt] at h1 h2; rw [wrap_i64]; omega
    rw [this]
  unfold left lim
  cases hl : decide (l = -1)
  · have hl' : ¬ l = -1 := by simpa using hl
    cases ha : cnt u <;> cases hb : cnt l <;> simp only [c55, U81, U80, U82, U92, U78, U79, U56, U54, hl, ha, hb, if_neg hl', Bool.and_self, Bool.and_true, Bool.and_false, if_true, if_false, Bool.false_eq_true, rwA, rwB, Nat.reduceAdd, Nat.reduceMul, Nat.reduceLeDiff, Int.reduceEq, Int.reduceLT, Int.reduceLE, Int.reduceAdd, Int.reduceSub, Int.reduceMul, ↓reduceIte, Nat.reduceEqDiff, reduceCtorEq, ↓cnd_true, ↓cnd_false]
    rw [← key l ha hb]
  · have hl' : l = -1 := by simpa using hl
    have hb : cnt 1125899906842624 = true := by decide
    cases ha : cnt u <;> simp only [c55, U81, U80, U82, U92, U78, U79, U56, U54, hl, ha, hb, if_pos hl', Bool.and_self, Bool.and_true, Bool.and_false, if_true, if_false, Bool.false_eq_true, rwA, rwB, Nat.reduceAdd, Nat.reduceMul, Nat.reduceLeDiff, Int.reduceEq, Int.reduceLT, Int.reduceLE, Int.reduceAdd, Int.reduceSub, Int.reduceMul, ↓reduceIte, Nat.reduceEqDiff, reduceCtorEq, ↓cnd_true, ↓cnd_false]
    rw [← key _ ha hb]

theorem U53_is : (arun (acall A 40) A.fn 40 (some GaFns.c53) [] noH).map (·.1) = some (.bool true) := by kernel_rfl
theorem U53 (H : AHeap) : AC A 53 [] H = some (.bool true, H) := one_closed (x := GaFns.c53) rfl rfl rfl rfl rfl U53_is H

end Go.Proofs.Ytfpbmoiconopcaa.Gh
