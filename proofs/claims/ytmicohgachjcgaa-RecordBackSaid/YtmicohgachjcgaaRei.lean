/- The checks of the records' getters. -/
import Derived.Test.YtmicohgachjcgaaReh
set_option maxRecDepth 100000
set_option linter.unusedSimpArgs false
set_option linter.unusedVariables false
set_option maxHeartbeats 4000000
namespace Go.Proofs.Ytmicohgachjcgaa.Re
open Go Go.Proofs.Ytmicohgachjcgaa.Am ReFns Go.RowKit

def keepb (b m : Bool) : Bool := if b then m else false

theorem U102 {H : AHeap} {p : Nat} {x : List UInt8 × Int} (h : Rs H p x) (k a b c d : Int) (n : Nat) (s : List UInt8) :
    AC A 102 [.agg [.int .i64 k, .int .i64 a, .int .i64 b, .int .i64 c, .int .i64 d, .int .u64 (n : Int)], .ptr p 0, .str s, .func 46 [] []] H = some (.tuple [.agg [.int .i64 (keep (fit x (bok k a b c d) (bval k a b c d n) s) k), .int .i64 (keep (fit x (bok k a b c d) (bval k a b c d n) s) a), .int .i64 (keep (fit x (bok k a b c d) (bval k a b c d n) s) b), .int .i64 (keep (fit x (bok k a b c d) (bval k a b c d n) s) c), .int .i64 (keep (fit x (bok k a b c d) (bval k a b c d n) s) d), .int .u64 (keep (fit x (bok k a b c d) (bval k a b c d n) s) (n : Int))], .int .i64 (bad (fit x (bok k a b c d) (bval k a b c d n) s))], H) := by
  refine look_val (x := ReFns.c102) rfl rfl rfl rfl ?_
  obtain ⟨K, eK⟩ : ∃ K, ((frz H).new (.cells [.int .i64 k, .int .i64 a, .int .i64 b, .int .i64 c, .int .i64 d, .int .u64 (n : Int)] true)).new (.cells [.int .i64 0, .int .i64 0, .int .i64 0, .int .i64 0, .int .i64 0, .int .u64 0] true) = K := ⟨_, rfl⟩
  have hp := h.2
  have o : K.obj p = some (.cells [.str x.1, .int .i64 x.2] false) := by
    rw [← eK]
    simp only [new_obj, new_next, frz_next]
    rw [if_neg (by omega), if_neg (by omega)]
    exact frz_obj h.1
  have o4 : K.obj H.next = some (.cells [.int .i64 k, .int .i64 a, .int .i64 b, .int .i64 c, .int .i64 d, .int .u64 (n : Int)] true) := by rw [← eK]; simp [AHeap.new, frz_next]
  have o8 : K.obj (H.next + 1) = some (.cells [.int .i64 0, .int .i64 0, .int .i64 0, .int .i64 0, .int .i64 0, .int .u64 0] true) := by rw [← eK]; simp [AHeap.new, frz_next]
  have nK : K.next = H.next + 2 := by rw [← eK]; rfl
  unfold fit bad
  cases c1 : decide (ending x.1 x.2 = 0) <;> cases c2 : bok k a b c d <;> cases c3 : decide (bval k a b c d n = s) <;> simp only [c102, frz_next, eK, o4, o8, nK, U46, U41o o, chk, sure, keep, keepb, c1, c2, c3, rwA, rwB, Nat.reduceAdd, Nat.reduceMul, Nat.reduceLeDiff, Int.reduceEq, Int.reduceLT, Int.reduceLE, Int.reduceAdd, Int.reduceSub, Int.reduceMul, ↓reduceIte, Nat.reduceEqDiff, reduceCtorEq, ↓cnd_true, ↓cnd_false] <;> first | rfl | exact ⟨_, rfl⟩ | simp

theorem U105 {H : AHeap} {p : Nat} {x : List UInt8 × Int} (h : Rs H p x) (n : Nat) (m : Bool) (c a b : Int) (s : List UInt8) :
    AC A 105 [.agg [.int .u64 (n : Int), .bool m, .int .u32 c, .int .i64 a, .int .i64 b], .ptr p 0, .str s, .func 48 [] []] H = some (.tuple [.agg [.int .u64 (keep (fit x (vok m c a b) (vval n m c a b) s) (n : Int)), .bool (keepb (fit x (vok m c a b) (vval n m c a b) s) m), .int .u32 (keep (fit x (vok m c a b) (vval n m c a b) s) c), .int .i64 (keep (fit x (vok m c a b) (vval n m c a b) s) a), .int .i64 (keep (fit x (vok m c a b) (vval n m c a b) s) b)], .int .i64 (bad (fit x (vok m c a b) (vval n m c a b) s))], H) := by
  refine look_val (x := ReFns.c105) rfl rfl rfl rfl ?_
  obtain ⟨K, eK⟩ : ∃ K, ((frz H).new (.cells [.int .u64 (n : Int), .bool m, .int .u32 c, .int .i64 a, .int .i64 b] true)).new (.cells [.int .u64 0, .bool false, .int .u32 0, .int .i64 0, .int .i64 0] true) = K := ⟨_, rfl⟩
  have hp := h.2
  have o : K.obj p = some (.cells [.str x.1, .int .i64 x.2] false) := by
    rw [← eK]
    simp only [new_obj, new_next, frz_next]
    rw [if_neg (by omega), if_neg (by omega)]
    exact frz_obj h.1
  have o4 : K.obj H.next = some (.cells [.int .u64 (n : Int), .bool m, .int .u32 c, .int .i64 a, .int .i64 b] true) := by rw [← eK]; simp [AHeap.new, frz_next]
  have o8 : K.obj (H.next + 1) = some (.cells [.int .u64 0, .bool false, .int .u32 0, .int .i64 0, .int .i64 0] true) := by rw [← eK]; simp [AHeap.new, frz_next]
  have nK : K.next = H.next + 2 := by rw [← eK]; rfl
  unfold fit bad
  cases c1 : decide (ending x.1 x.2 = 0) <;> cases c2 : vok m c a b <;> cases c3 : decide (vval n m c a b = s) <;> simp only [c105, frz_next, eK, o4, o8, nK, U48, U41o o, chk, sure, keep, keepb, c1, c2, c3, rwA, rwB, Nat.reduceAdd, Nat.reduceMul, Nat.reduceLeDiff, Int.reduceEq, Int.reduceLT, Int.reduceLE, Int.reduceAdd, Int.reduceSub, Int.reduceMul, ↓reduceIte, Nat.reduceEqDiff, reduceCtorEq, ↓cnd_true, ↓cnd_false] <;> first | rfl | exact ⟨_, rfl⟩ | simp

theorem U106 {H : AHeap} {p : Nat} {x : List UInt8 × Int} (h : Rs H p x) (t : List UInt8) (s : List UInt8) :
    AC A 106 [.agg [.str t], .ptr p 0, .str s, .func 50 [] []] H = some (.tuple [.agg [.str (sure (fit x (keyok t) (t) s) t)], .int .i64 (bad (fit x (keyok t) (t) s))], H) := by
  refine look_val (x := ReFns.c106) rfl rfl rfl rfl ?_
  obtain ⟨K, eK⟩ : ∃ K, ((frz H).new (.cells [.str t] true)).new (.cells [.str []] true) = K := ⟨_, rfl⟩
  have hp := h.2
  have o : K.obj p = some (.cells [.str x.1, .int .i64 x.2] false) := by
    rw [← eK]
    simp only [new_obj, new_next, frz_next]
    rw [if_neg (by omega), if_neg (by omega)]
    exact frz_obj h.1
  have o4 : K.obj H.next = some (.cells [.str t] true) := by rw [← eK]; simp [AHeap.new, frz_next]
  have o8 : K.obj (H.next + 1) = some (.cells [.str []] true) := by rw [← eK]; simp [AHeap.new, frz_next]
  have nK : K.next = H.next + 2 := by rw [← eK]; rfl
  unfold fit bad
  cases c1 : decide (ending x.1 x.2 = 0) <;> cases c2 : keyok t <;> cases c3 : decide (t = s) <;> simp only [c106, frz_next, eK, o4, o8, nK, U50, U41o o, chk, sure, keep, keepb, c1, c2, c3, rwA, rwB, Nat.reduceAdd, Nat.reduceMul, Nat.reduceLeDiff, Int.reduceEq, Int.reduceLT, Int.reduceLE, Int.reduceAdd, Int.reduceSub, Int.reduceMul, ↓reduceIte, Nat.reduceEqDiff, reduceCtorEq, ↓cnd_true, ↓cnd_false] <;> first | rfl | exact ⟨_, rfl⟩ | simp

theorem U107 {H : AHeap} {p : Nat} {x : List UInt8 × Int} (h : Rs H p x) (c a b : Int) (s : List UInt8) :
    AC A 107 [.agg [.int .u32 c, .int .i64 a, .int .i64 b], .ptr p 0, .str s, .func 52 [] []] H = some (.tuple [.agg [.int .u32 (keep (fit x (blobok a b) (body c a b) s) c), .int .i64 (keep (fit x (blobok a b) (body c a b) s) a), .int .i64 (keep (fit x (blobok a b) (body c a b) s) b)], .int .i64 (bad (fit x (blobok a b) (body c a b) s))], H) := by
  refine look_val (x := ReFns.c107) rfl rfl rfl rfl ?_
  obtain ⟨K, eK⟩ : ∃ K, ((frz H).new (.cells [.int .u32 c, .int .i64 a, .int .i64 b] true)).new (.cells [.int .u32 0, .int .i64 0, .int .i64 0] true) = K := ⟨_, rfl⟩
  have hp := h.2
  have o : K.obj p = some (.cells [.str x.1, .int .i64 x.2] false) := by
    rw [← eK]
    simp only [new_obj, new_next, frz_next]
    rw [if_neg (by omega), if_neg (by omega)]
    exact frz_obj h.1
  have o4 : K.obj H.next = some (.cells [.int .u32 c, .int .i64 a, .int .i64 b] true) := by rw [← eK]; simp [AHeap.new, frz_next]
  have o8 : K.obj (H.next + 1) = some (.cells [.int .u32 0, .int .i64 0, .int .i64 0] true) := by rw [← eK]; simp [AHeap.new, frz_next]
  have nK : K.next = H.next + 2 := by rw [← eK]; rfl
  unfold fit bad
  cases c1 : decide (ending x.1 x.2 = 0) <;> cases c2 : blobok a b <;> cases c3 : decide (body c a b = s) <;> simp only [c107, frz_next, eK, o4, o8, nK, U52, U41o o, chk, sure, keep, keepb, c1, c2, c3, rwA, rwB, Nat.reduceAdd, Nat.reduceMul, Nat.reduceLeDiff, Int.reduceEq, Int.reduceLT, Int.reduceLE, Int.reduceAdd, Int.reduceSub, Int.reduceMul, ↓reduceIte, Nat.reduceEqDiff, reduceCtorEq, ↓cnd_true, ↓cnd_false] <;> first | rfl | exact ⟨_, rfl⟩ | simp

end Go.Proofs.Ytmicohgachjcgaa.Re
