/- The keys' chapter: keys opened. -/
import Derived.Test.YtmicohgachjcgaaKyh
set_option maxRecDepth 100000
set_option linter.unusedSimpArgs false
set_option linter.unusedVariables false
set_option maxHeartbeats 4000000
namespace Go.Proofs.Ytmicohgachjcgaa.Re
open Go Go.Proofs.Ytmicohgachjcgaa.Am ReFns Go.RowKit

/-! ### Cut at the first zero -/
def ncutA : List UInt8 → List UInt8
  | [] => []
  | c :: s => if c = 0 then [] else c :: ncutA s
def ncutB : List UInt8 → List UInt8
  | [] => []
  | c :: s => if c = 0 then s else ncutB s
def hasZ : List UInt8 → Bool
  | [] => false
  | c :: s => if c = 0 then true else hasZ s
theorem cut_zero : ∀ (a b : List UInt8), a.all (· != 0) = true → ncutA (a ++ 0 :: b) = a ∧ ncutB (a ++ 0 :: b) = b
  | [], b, _ => ⟨rfl, rfl⟩
  | c :: a, b, h => by
    simp only [List.all_cons, Bool.and_eq_true, bne_iff_ne, ne_eq] at h
    have ih := cut_zero a b h.2
    simp only [List.cons_append, ncutA, ncutB, if_neg h.1, ih.1, ih.2, and_self]
theorem cut_none : ∀ (a : List UInt8), a.all (· != 0) = true → ncutA a = a ∧ ncutB a = []
  | [], _ => ⟨rfl, rfl⟩
  | c :: a, h => by
    simp only [List.all_cons, Bool.and_eq_true, bne_iff_ne, ne_eq] at h
    have ih := cut_none a h.2
    simp only [ncutA, ncutB, if_neg h.1, ih.1, ih.2, and_self]
theorem idx_zero : ∀ s : List UInt8, (hasZ s = true ∧ ∃ i : Nat, Lib.indexByte s 0 = (i : Int) ∧ i + 1 ≤ s.length ∧ s.take i = ncutA s ∧ s.drop (i + 1) = ncutB s) ∨ (hasZ s = false ∧ Lib.indexByte s 0 = -1 ∧ ncutA s = s ∧ ncutB s = [])
  | [] => .inr ⟨rfl, rfl, rfl, rfl⟩
  | c :: s => by
    unfold Lib.indexByte hasZ ncutA ncutB
    by_cases hc : c = 0
    · subst hc
      exact .inl ⟨rfl, 0, rfl, by simp, by simp, by simp⟩
    · have hb : (c == 0) = false := by rw [beq_eq_false_iff_ne]; exact hc
      rw [hb, if_neg hc, if_neg hc, if_neg hc]
      rcases idx_zero s with ⟨h1, i, h2, h3, h4, h5⟩ | ⟨h1, h2, h3, h4⟩
      · refine .inl ⟨h1, i + 1, ?_, by simp; omega, by simp [h4], by simp [h5]⟩
        rw [h2]
        have : ((i : Int) == -1) = false := by rw [beq_eq_false_iff_ne]; omega
        simp [this]
      · refine .inr ⟨h1, ?_, by rw [h3], h4⟩
        rw [h2]; rfl

theorem b0 : ([0] : List UInt8)[0]? = some 0 := rfl
theorem a0 : aidx 1 (.int .i64 0) = some 0 := by kernel_rfl
theorem U147 (s : List UInt8) (hs : s.length ≤ 4611686018427387904) (H : AHeap) : AC A 147 [.str s, .str [0]] H = some (.int .i64 (Lib.indexByte s 0), H) := by
  refine one_val (x := ReFns.c147) rfl rfl rfl rfl rfl ?_ H
  have u135 : ∀ H, AC A 135 [.str s, .int .u8 0] H = some (.int .i64 (Lib.indexByte s 0), H) := fun H => AC_ext_of (g := gIdx) rfl rfl H
  have z : (UInt8.toNat 0 : Int) = 0 := rfl
  have l1 : ((1 : Nat) : Int) = 1 := rfl
  have l2 : ([0] : List UInt8).length = 1 := rfl
  have e0 : decide ((1 : Int) = 0) = false := rfl
  have e3 : decide ((1 : Int) = 1) = true := rfl
  cases d : decide ([0] = s)
  · simp only [c147, lbe, d, l2, l1, e0, e3, a0, b0, z, u135, wrap_c, rwA, rwB, Nat.reduceAdd, Nat.reduceMul, Nat.reduceLeDiff, Int.reduceEq, Int.reduceLT, Int.reduceLE, Int.reduceAdd, Int.reduceSub, Int.reduceMul, ↓reduceIte, Nat.reduceEqDiff, reduceCtorEq, ↓cnd_true, ↓cnd_false]
  · have := of_decide_eq_true d
    subst this
    simp only [c147, lbe, d, l2, l1, e0, e3, a0, b0, z, u135, wrap_c, rwA, rwB, Nat.reduceAdd, Nat.reduceMul, Nat.reduceLeDiff, Int.reduceEq, Int.reduceLT, Int.reduceLE, Int.reduceAdd, Int.reduceSub, Int.reduceMul, ↓reduceIte, Nat.reduceEqDiff, reduceCtorEq, ↓cnd_true, ↓cnd_false]
    try rfl

theorem U134 (s : List UInt8) (hs : s.length ≤ 4611686018427387904) (H : AHeap) : AC A 134 [.str s, .str [0]] H = some (.tuple [.str (ncutA s), .str (ncutB s), .bool (hasZ s)], H) := by
  refine one_val (x := ReFns.c134) rfl rfl rfl rfl rfl ?_ H
  have u147 := U147 s hs
  have l1 : ((1 : Nat) : Int) = 1 := rfl
  have l2 : ([0] : List UInt8).length = 1 := rfl
  rcases idx_zero s with ⟨h1, i, h2, h3, h4, h5⟩ | ⟨h1, h2, h3, h4⟩
  · rw [h2] at u147
    have c : decide ((0 : Int) ≤ (i : Int)) = true := decide_eq_true (by omega)
    have w : IntKind.i64.wrap ((i : Int) + 1) = ((i + 1 : Nat) : Int) := by rw [wrap_i64]; omega
    have s1 := slc_hi s i (by omega) (by omega)
    have s2 := slc_lo s ((i + 1 : Nat) : Int) (by omega) (by omega)
    rw [Int.toNat_natCast] at s1 s2
    simp only [c134, u147, c, w, s1, s2, l2, l1, h1, List.drop_zero, List.take_length, h4, h5, rwA, rwB, Nat.reduceAdd, Nat.reduceMul, Nat.reduceLeDiff, Int.reduceEq, Int.reduceLT, Int.reduceLE, Int.reduceAdd, Int.reduceSub, Int.reduceMul, ↓reduceIte, Nat.reduceEqDiff, reduceCtorEq, ↓cnd_true, ↓cnd_false]
  · rw [h2] at u147
    have c : decide ((0 : Int) ≤ -1) = false := rfl
    simp only [c134, u147, c, h1, h3, h4, rwA, rwB, Nat.reduceAdd, Nat.reduceMul, Nat.reduceLeDiff, Int.reduceEq, Int.reduceLT, Int.reduceLE, Int.reduceAdd, Int.reduceSub, Int.reduceMul, ↓reduceIte, Nat.reduceEqDiff, reduceCtorEq, ↓cnd_true, ↓cnd_false]
theorem U109 (s : List UInt8) (hs : s.length ≤ 4611686018427387904) (H : AHeap) : AC A 109 [.str s, .str [0]] H = some (.tuple [.str (ncutA s), .str (ncutB s), .bool (hasZ s)], H) := by
  refine one_val (x := ReFns.c109) rfl rfl rfl rfl rfl ?_ H
  have u := U134 s hs
  simp only [c109, u, rwA, rwB, Nat.reduceAdd, Nat.reduceMul, Nat.reduceLeDiff, Int.reduceEq, Int.reduceLT, Int.reduceLE, Int.reduceAdd, Int.reduceSub, Int.reduceMul, ↓reduceIte, Nat.reduceEqDiff, reduceCtorEq, ↓cnd_true, ↓cnd_false]

/-! ### The zero at the end taken off -/
def offZ (s : List UInt8) : List UInt8 := if decide (1 ≤ s.length) && decide (s.drop (s.length - 1) = [0]) then s.take (s.length - 1) else s
theorem U160 (s : List UInt8) (hs : s.length ≤ 4611686018427387904) (H : AHeap) : AC A 160 [.str s, .str [0]] H = some (.bool (decide (1 ≤ s.length) && decide (s.drop (s.length - 1) = [0])), H) := by
  refine one_val (x := ReFns.c160) rfl rfl rfl rfl rfl ?_ H
  have l1 : ((1 : Nat) : Int) = 1 := rfl
  have l2 : ([0] : List UInt8).length = 1 := rfl
  have e : decide ((1 : Int) ≤ (s.length : Int)) = decide (1 ≤ s.length) := by rw [decide_eq_decide]; omega
  cases d : decide (1 ≤ s.length)
  · rw [d] at e
    simp only [c160, l2, l1, e, Bool.false_and, rwA, rwB, Nat.reduceAdd, Nat.reduceMul, Nat.reduceLeDiff, Int.reduceEq, Int.reduceLT, Int.reduceLE, Int.reduceAdd, Int.reduceSub, Int.reduceMul, ↓reduceIte, Nat.reduceEqDiff, reduceCtorEq, ↓cnd_true, ↓cnd_false]
  · rw [d] at e
    have hd := of_decide_eq_true d
    have w : IntKind.i64.wrap ((s.length : Int) - 1) = ((s.length - 1 : Nat) : Int) := by rw [wrap_i64]; omega
    have s2 := slc_lo s ((s.length - 1 : Nat) : Int) (by omega) (by omega)
    rw [Int.toNat_natCast] at s2
    simp only [c160, l2, l1, e, w, s2, List.take_length, lbe, Bool.true_and, rwA, rwB, Nat.reduceAdd, Nat.reduceMul, Nat.reduceLeDiff, Int.reduceEq, Int.reduceLT, Int.reduceLE, Int.reduceAdd, Int.reduceSub, Int.reduceMul, ↓reduceIte, Nat.reduceEqDiff, reduceCtorEq, ↓cnd_true, ↓cnd_false]
theorem U152 (s : List UInt8) (hs : s.length ≤ 4611686018427387904) (H : AHeap) : AC A 152 [.str s, .str [0]] H = some (.str (offZ s), H) := by
  refine one_val (x := ReFns.c152) rfl rfl rfl rfl rfl ?_ H
  have u := U160 s hs
  have l1 : ((1 : Nat) : Int) = 1 := rfl
  have l2 : ([0] : List UInt8).length = 1 := rfl
  unfold offZ
  cases d : decide (1 ≤ s.length) && decide (s.drop (s.length - 1) = [0])
  · rw [d] at u
    simp only [c152, u, rwA, rwB, Nat.reduceAdd, Nat.reduceMul, Nat.reduceLeDiff, Int.reduceEq, Int.reduceLT, Int.reduceLE, Int.reduceAdd, Int.reduceSub, Int.reduceMul, ↓reduceIte, Nat.reduceEqDiff, reduceCtorEq, ↓cnd_true, ↓cnd_false]
    try rfl
  · rw [d] at u
    simp only [Bool.and_eq_true, decide_eq_true_eq] at d
    have w : IntKind.i64.wrap ((s.length : Int) - 1) = ((s.length - 1 : Nat) : Int) := by rw [wrap_i64]; omega
    have s2 := slc_hi s ((s.length - 1 : Nat) : Int) (by omega) (by omega)
    rw [Int.toNat_natCast] at s2
    simp only [c152, u, l2, l1, w, s2, List.drop_zero, rwA, rwB, Nat.reduceAdd, Nat.reduceMul, Nat.reduceLeDiff, Int.reduceEq, Int.reduceLT, Int.reduceLE, Int.reduceAdd, Int.reduceSub, Int.reduceMul, ↓reduceIte, Nat.reduceEqDiff, reduceCtorEq, ↓cnd_true, ↓cnd_false]
    try rfl
theorem U136 (s : List UInt8) (hs : s.length ≤ 4611686018427387904) (H : AHeap) : AC A 136 [.str s, .str [0]] H = some (.str (offZ s), H) := by
  refine one_val (x := ReFns.c136) rfl rfl rfl rfl rfl ?_ H
  have u := U152 s hs
  simp only [c136, u, rwA, rwB, Nat.reduceAdd, Nat.reduceMul, Nat.reduceLeDiff, Int.reduceEq, Int.reduceLT, Int.reduceLE, Int.reduceAdd, Int.reduceSub, Int.reduceMul, ↓reduceIte, Nat.reduceEqDiff, reduceCtorEq, ↓cnd_true, ↓cnd_false]
theorem offZ_cat (s : List UInt8) : offZ (s ++ [0]) = s := by
  unfold offZ
  simp

/-! ### The letters -/
def kindOf (c : UInt8) : Int := max (Lib.indexByte [32, 84, 66, 86, 85, 80] c) 0
theorem U110 (c : UInt8) (H : AHeap) : AC A 110 [.str [32, 84, 66, 86, 85, 80], .int .u8 (c.toNat : Int)] H = some (.int .i64 (Lib.indexByte [32, 84, 66, 86, 85, 80] c), H) := by
  refine one_val (x := ReFns.c110) rfl rfl rfl rfl rfl ?_ H
  have u135 : ∀ H, AC A 135 [.str [32, 84, 66, 86, 85, 80], .int .u8 (c.toNat : Int)] H = some (.int .i64 (Lib.indexByte [32, 84, 66, 86, 85, 80] ((c.toNat : Int).toNat.toUInt8)), H) := fun H => AC_ext_of (g := gIdx) rfl rfl H
  have e : ((c.toNat : Int).toNat.toUInt8) = c := by simp
  rw [e] at u135
  simp only [c110, u135, rwA, rwB, Nat.reduceAdd, Nat.reduceMul, Nat.reduceLeDiff, Int.reduceEq, Int.reduceLT, Int.reduceLE, Int.reduceAdd, Int.reduceSub, Int.reduceMul, ↓reduceIte, Nat.reduceEqDiff, reduceCtorEq, ↓cnd_true, ↓cnd_false]
theorem kind_letter {k : Int} (h : 1 ≤ k ∧ k ≤ 5) : kindOf (letter k) = k := by
  have hk : k = 1 ∨ k = 2 ∨ k = 3 ∨ k = 4 ∨ k = 5 := by omega
  rcases hk with rfl | rfl | rfl | rfl | rfl <;> rfl

end Go.Proofs.Ytmicohgachjcgaa.Re
