/- The keys' chapter: beginnings. -/
import Derived.Test.YtmicohgachjcgaaKye
set_option maxRecDepth 100000
set_option linter.unusedSimpArgs false
set_option linter.unusedVariables false
set_option maxHeartbeats 4000000
namespace Go.Proofs.Ytmicohgachjcgaa.Re
open Go Go.Proofs.Ytmicohgachjcgaa.Am ReFns Go.RowKit

/-- Does the key begin so? Nothing begins with nothing. -/
def beg (x p : List UInt8) : Bool := !nilS p && p.isPrefixOf x
theorem pref_take (x p : List UInt8) : p.isPrefixOf x = (decide (p.length ≤ x.length) && decide (x.take p.length = p)) := by
  rw [Bool.eq_iff_iff]
  simp only [List.isPrefixOf_iff_prefix, List.prefix_iff_eq_take, Bool.and_eq_true, decide_eq_true_eq]
  constructor
  · intro h
    refine ⟨?_, h.symm⟩
    have := congrArg List.length h
    rw [List.length_take] at this
    omega
  · intro h; exact h.2.symm

theorem U80 (x p : List UInt8) (hx : x.length ≤ 1000) (hp : p.length ≤ 1000) (H : AHeap) : AC A 80 [.str x, .str p] H = some (.bool (beg x p), H) := by
  refine one_val (x := ReFns.c80) rfl rfl rfl rfl rfl ?_ H
  unfold beg nilS
  rw [pref_take]
  have l1 : decide ((p.length : Int) ≤ (x.length : Int)) = decide (p.length ≤ x.length) := by rw [decide_eq_decide]; omega
  cases d1 : decide (p = []) <;> cases d2 : decide (p.length ≤ x.length) <;> rw [d2] at l1
  · simp only [c80, lbe, d1, l1, rwA, rwB, Nat.reduceAdd, Nat.reduceMul, Nat.reduceLeDiff, Int.reduceEq, Int.reduceLT, Int.reduceLE, Int.reduceAdd, Int.reduceSub, Int.reduceMul, ↓reduceIte, Nat.reduceEqDiff, reduceCtorEq, ↓cnd_true, ↓cnd_false]
    rfl
  · have sb := slc_hi x p.length (by omega) (by have := of_decide_eq_true d2; omega)
    rw [Int.toNat_natCast] at sb
    simp only [c80, lbe, d1, l1, sb, List.drop_zero, rwA, rwB, Nat.reduceAdd, Nat.reduceMul, Nat.reduceLeDiff, Int.reduceEq, Int.reduceLT, Int.reduceLE, Int.reduceAdd, Int.reduceSub, Int.reduceMul, ↓reduceIte, Nat.reduceEqDiff, reduceCtorEq, ↓cnd_true, ↓cnd_false]
    simp
  · simp only [c80, lbe, d1, l1, rwA, rwB, Nat.reduceAdd, Nat.reduceMul, Nat.reduceLeDiff, Int.reduceEq, Int.reduceLT, Int.reduceLE, Int.reduceAdd, Int.reduceSub, Int.reduceMul, ↓reduceIte, Nat.reduceEqDiff, reduceCtorEq, ↓cnd_true, ↓cnd_false]
    rfl
  · simp only [c80, lbe, d1, l1, rwA, rwB, Nat.reduceAdd, Nat.reduceMul, Nat.reduceLeDiff, Int.reduceEq, Int.reduceLT, Int.reduceLE, Int.reduceAdd, Int.reduceSub, Int.reduceMul, ↓reduceIte, Nat.reduceEqDiff, reduceCtorEq, ↓cnd_true, ↓cnd_false]
    rfl

def bucketsp (t : Int) : List UInt8 := sure (tenok t) (front 2 t)
def allp (k t : Int) (b : List UInt8) : List UInt8 := sure ((decide (3 ≤ k) && decide (k < 6)) && (tenok t && bnok b)) (front k t ++ (b ++ [0]))
def chainp (t : Int) (b s : List UInt8) : List UInt8 := sure ((tenok t && bnok b) && keyok s) (front 3 t ++ (b ++ 0 :: (s ++ [0])))
def piecep (t : Int) (b : List UInt8) (n : Nat) : List UInt8 := sure (tenok t && bnok b) (front 5 t ++ (b ++ 0 :: num 8 n))

theorem bn_len {b : List UInt8} (h : bnok b = true) : b.length ≤ 12 := by
  unfold bnok at h; simp only [Bool.and_eq_true, decide_eq_true_eq] at h; exact h.1.1.2
theorem ky_len {s : List UInt8} (h : keyok s = true) : s.length ≤ 24 := by
  unfold keyok preok at h; simp only [Bool.and_eq_true, decide_eq_true_eq] at h; exact h.2.1
theorem bn_all {b : List UInt8} (h : bnok b = true) : b.all (· != 0) = true := by
  unfold bnok at h
  simp only [Bool.and_eq_true] at h
  have := h.2
  rw [List.all_eq_true] at this ⊢
  intro c hc
  have h1 := this c hc
  rw [bne_iff_ne]
  rintro rfl
  exact absurd h1 (by decide)
theorem sure_len (v : Bool) (s : List UInt8) (n : Nat) (h : v = true → s.length ≤ n) : (sure v s).length ≤ n := by
  cases v
  · rw [sure_f]; simp
  · rw [sure_t]; exact h rfl
theorem front_nn (k t : Int) (x : List UInt8) : decide (front k t ++ x = []) = false := by
  rw [decide_eq_false_iff_not]; unfold front; simp
theorem bz : ([] : List UInt8) == [] := rfl

theorem U72 (t : Int) (H : AHeap) : AC A 72 [.int .i64 t] H = some (.str (bucketsp t), H) := by
  refine one_val (x := ReFns.c72) rfl rfl rfl rfl rfl ?_ H
  unfold bucketsp
  have u115 := U115 t
  rw [show (decide (0 ≤ t) && decide (t < 8)) = tenok t from rfl] at u115
  have u108 := U108 2 t (by omega)
  cases d : tenok t <;> rw [d] at u115 <;> simp only [c72, u115, u108, sure_t, sure_f, rwA, rwB, Nat.reduceAdd, Nat.reduceMul, Nat.reduceLeDiff, Int.reduceEq, Int.reduceLT, Int.reduceLE, Int.reduceAdd, Int.reduceSub, Int.reduceMul, ↓reduceIte, Nat.reduceEqDiff, reduceCtorEq, ↓cnd_true, ↓cnd_false]

theorem U74 (k t : Int) (b : List UInt8) (H : AHeap) : AC A 74 [.int .i64 k, .int .i64 t, .str b] H = some (.str (allp k t b), H) := by
  refine one_val (x := ReFns.c74) rfl rfl rfl rfl rfl ?_ H
  unfold allp
  have u115 := U115 t
  rw [show (decide (0 ≤ t) && decide (t < 8)) = tenok t from rfl] at u115
  have u117 := U117 b
  have h3 : decide (k < 3) = !decide (3 ≤ k) := by rw [Bool.eq_iff_iff]; simp
  have h6 : decide (6 ≤ k) = !decide (k < 6) := by rw [Bool.eq_iff_iff]; simp
  cases d1 : decide (3 ≤ k)
  · cases tenok t <;> cases bnok b <;> simp only [c74, h3, d1, Bool.false_and, Bool.and_false, sure_f, rwA, rwB, Nat.reduceAdd, Nat.reduceMul, Nat.reduceLeDiff, Int.reduceEq, Int.reduceLT, Int.reduceLE, Int.reduceAdd, Int.reduceSub, Int.reduceMul, ↓reduceIte, Nat.reduceEqDiff, reduceCtorEq, ↓cnd_true, ↓cnd_false]
  cases d2 : decide (k < 6)
  · cases tenok t <;> cases bnok b <;> simp only [c74, h3, h6, d1, d2, Bool.false_and, Bool.and_false, Bool.true_and, sure_f, rwA, rwB, Nat.reduceAdd, Nat.reduceMul, Nat.reduceLeDiff, Int.reduceEq, Int.reduceLT, Int.reduceLE, Int.reduceAdd, Int.reduceSub, Int.reduceMul, ↓reduceIte, Nat.reduceEqDiff, reduceCtorEq, ↓cnd_true, ↓cnd_false]
  cases d3 : tenok t
  · rw [d3] at u115
    cases bnok b <;> simp only [c74, h3, h6, d1, d2, u115, Bool.false_and, Bool.and_false, Bool.true_and, sure_f, rwA, rwB, Nat.reduceAdd, Nat.reduceMul, Nat.reduceLeDiff, Int.reduceEq, Int.reduceLT, Int.reduceLE, Int.reduceAdd, Int.reduceSub, Int.reduceMul, ↓reduceIte, Nat.reduceEqDiff, reduceCtorEq, ↓cnd_true, ↓cnd_false]
  rw [d3] at u115
  cases d4 : bnok b
  · rw [d4] at u117
    simp only [chk_f] at u117
    simp only [c74, h3, h6, d1, d2, u115, u117, Bool.false_and, Bool.and_false, Bool.true_and, sure_f, rwA, rwB, Nat.reduceAdd, Nat.reduceMul, Nat.reduceLeDiff, Int.reduceEq, Int.reduceLT, Int.reduceLE, Int.reduceAdd, Int.reduceSub, Int.reduceMul, ↓reduceIte, Nat.reduceEqDiff, reduceCtorEq, ↓cnd_true, ↓cnd_false]
  · rw [d4] at u117
    simp only [chk_t] at u117
    have u108 := U108 k t (by have := of_decide_eq_true d1; have := of_decide_eq_true d2; omega)
    have lf := front_len k t
    have lb := bn_len d4
    obtain ⟨F, hF⟩ : ∃ F, front k t = F := ⟨_, rfl⟩
    rw [hF] at u108 lf ⊢
    have q1 := catS F b (by omega)
    have q2 := catS (F ++ b) [0] (by simp; omega)
    rw [List.append_assoc] at q2
    simp only [c74, h3, h6, d1, d2, u115, u117, u108, q1, q2, Bool.false_and, Bool.and_false, Bool.and_true, Bool.true_and, sure_t, rwA, rwB, Nat.reduceAdd, Nat.reduceMul, Nat.reduceLeDiff, Int.reduceEq, Int.reduceLT, Int.reduceLE, Int.reduceAdd, Int.reduceSub, Int.reduceMul, ↓reduceIte, Nat.reduceEqDiff, reduceCtorEq, ↓cnd_true, ↓cnd_false]

theorem U76 (t : Int) (b s : List UInt8) (H : AHeap) : AC A 76 [.int .i64 t, .str b, .str s] H = some (.str (chainp t b s), H) := by
  refine one_val (x := ReFns.c76) rfl rfl rfl rfl rfl ?_ H
  unfold chainp
  have u74 := U74 3 t b
  have u97 := U97 s
  unfold allp at u74
  have a : decide ((3 : Int) ≤ 3) = true := rfl
  have c : decide ((3 : Int) < 6) = true := rfl
  rw [a, c] at u74
  simp only [Bool.true_and, Bool.and_true] at u74
  cases d1 : tenok t && bnok b
  · rw [d1] at u74
    simp only [sure_f] at u74
    simp only [c76, u74, Bool.false_and, sure_f, lbe, dl, rwA, rwB, Nat.reduceAdd, Nat.reduceMul, Nat.reduceLeDiff, Int.reduceEq, Int.reduceLT, Int.reduceLE, Int.reduceAdd, Int.reduceSub, Int.reduceMul, ↓reduceIte, Nat.reduceEqDiff, reduceCtorEq, ↓cnd_true, ↓cnd_false]
  · rw [d1] at u74
    simp only [sure_t] at u74
    have hb : bnok b = true := by simp only [Bool.and_eq_true] at d1; exact d1.2
    have lb := bn_len hb
    have lf := front_len 3 t
    have nn := front_nn 3 t (b ++ [0])
    cases d2 : keyok s
    · rw [d2] at u97
      simp only [chk_f] at u97
      simp only [c76, u74, u97, Bool.true_and, sure_f, lbe, nn, rwA, rwB, Nat.reduceAdd, Nat.reduceMul, Nat.reduceLeDiff, Int.reduceEq, Int.reduceLT, Int.reduceLE, Int.reduceAdd, Int.reduceSub, Int.reduceMul, ↓reduceIte, Nat.reduceEqDiff, reduceCtorEq, ↓cnd_true, ↓cnd_false]
    · rw [d2] at u97
      simp only [chk_t] at u97
      have ls := ky_len d2
      obtain ⟨F, hF⟩ : ∃ F, front 3 t = F := ⟨_, rfl⟩
      rw [hF] at u74 lf nn ⊢
      have q1 := catS (F ++ (b ++ [0])) s (by simp; omega)
      have q2 := catS (F ++ (b ++ [0]) ++ s) [0] (by simp; omega)
      simp only [c76, u74, u97, Bool.true_and, sure_t, lbe, nn, q1, q2, rwA, rwB, Nat.reduceAdd, Nat.reduceMul, Nat.reduceLeDiff, Int.reduceEq, Int.reduceLT, Int.reduceLE, Int.reduceAdd, Int.reduceSub, Int.reduceMul, ↓reduceIte, Nat.reduceEqDiff, reduceCtorEq, ↓cnd_true, ↓cnd_false]
      simp

theorem U78 (t : Int) (b : List UInt8) (n : Nat) (H : AHeap) : AC A 78 [.int .i64 t, .str b, .int .u64 (n : Int)] H = some (.str (piecep t b n), H) := by
  refine one_val (x := ReFns.c78) rfl rfl rfl rfl rfl ?_ H
  unfold piecep
  have u74 := U74 5 t b
  unfold allp at u74
  have a : decide ((3 : Int) ≤ 5) = true := rfl
  have c : decide ((5 : Int) < 6) = true := rfl
  rw [a, c] at u74
  simp only [Bool.true_and, Bool.and_true] at u74
  cases d1 : tenok t && bnok b
  · rw [d1] at u74
    simp only [sure_f] at u74
    simp only [c78, u74, sure_f, lbe, dl, rwA, rwB, Nat.reduceAdd, Nat.reduceMul, Nat.reduceLeDiff, Int.reduceEq, Int.reduceLT, Int.reduceLE, Int.reduceAdd, Int.reduceSub, Int.reduceMul, ↓reduceIte, Nat.reduceEqDiff, reduceCtorEq, ↓cnd_true, ↓cnd_false]
  · rw [d1] at u74
    simp only [sure_t] at u74
    have hb : bnok b = true := by simp only [Bool.and_eq_true] at d1; exact d1.2
    have lb := bn_len hb
    have lf := front_len 5 t
    have nn := front_nn 5 t (b ++ [0])
    have u23 := U23 n
    obtain ⟨Y, hY⟩ : ∃ Y, num 8 n = Y := ⟨_, rfl⟩
    have lY : Y.length = 8 := by rw [← hY, len8]
    rw [hY] at u23 ⊢
    obtain ⟨F, hF⟩ : ∃ F, front 5 t = F := ⟨_, rfl⟩
    rw [hF] at u74 lf nn ⊢
    have q1 := catS (F ++ (b ++ [0])) Y (by simp; omega)
    simp only [c78, u74, u23, sure_t, lbe, nn, q1, rwA, rwB, Nat.reduceAdd, Nat.reduceMul, Nat.reduceLeDiff, Int.reduceEq, Int.reduceLT, Int.reduceLE, Int.reduceAdd, Int.reduceSub, Int.reduceMul, ↓reduceIte, Nat.reduceEqDiff, reduceCtorEq, ↓cnd_true, ↓cnd_false]
    simp

end Go.Proofs.Ytmicohgachjcgaa.Re
