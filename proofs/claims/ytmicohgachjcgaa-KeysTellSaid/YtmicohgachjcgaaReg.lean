/- What the records' readers answer. -/
import Derived.Test.YtmicohgachjcgaaRed
set_option maxRecDepth 100000
set_option linter.unusedSimpArgs false
set_option linter.unusedVariables false
set_option maxHeartbeats 4000000
namespace Go.Proofs.Ytmicohgachjcgaa.Re
open Go Go.Proofs.Ytmicohgachjcgaa.Am ReFns Go.RowKit

/-! ### A reader's steps -/
def st (x : List UInt8 × Int) (w : Nat) : List UInt8 × Int := ((raw x.1 x.2 (w : Int)).1, (raw x.1 x.2 (w : Int)).2.1)
def va (x : List UInt8 × Int) (w : Nat) : Nat := be (raw x.1 x.2 (w : Int)).2.2
def steps : List Nat → List UInt8 × Int → List UInt8 × Int
  | [], x => x
  | w :: l, x => steps l (st x w)
theorem st_err (s : List UInt8) (e : Int) (h : e ≠ 0) (w : Nat) : st (s, e) w = (s, e) := by
  unfold st; simp only; rw [raw_err _ _ _ h]
theorem st_short (s : List UInt8) (w : Nat) (h : s.length < w) : st (s, 0) w = ([], 20) := by
  unfold st raw
  simp only
  rw [if_neg (by simp), if_neg (by omega), if_pos (by omega)]
theorem st_ok (s : List UInt8) (w : Nat) (h : w ≤ s.length) : st (s, 0) w = (s.drop w, 0) := by
  unfold st raw
  simp only
  rw [if_neg (by simp), if_neg (by omega), if_neg (by omega), Int.toNat_natCast]
theorem va_ok (s : List UInt8) (w : Nat) (h : w ≤ s.length) : va (s, 0) w = be (s.take w) := by
  unfold va raw
  simp only
  rw [if_neg (by simp), if_neg (by omega), if_neg (by omega), Int.toNat_natCast]
theorem steps_err : ∀ (l : List Nat) (s : List UInt8) (e : Int), e ≠ 0 → steps l (s, e) = (s, e)
  | [], s, e, _ => rfl
  | w :: l, s, e, h => by rw [steps, st_err s e h, steps_err l s e h]
theorem steps_end : ∀ (l : List Nat) (s : List UInt8), ending (steps l (s, 0)).1 (steps l (s, 0)).2 = 0 ↔ s.length = l.sum
  | [], s => by
    show ending s 0 = 0 ↔ s.length = 0
    unfold ending
    rw [if_neg (by simp)]
    by_cases h : 0 < s.length
    · rw [if_pos h]; simp; intro h0; rw [h0] at h; simp at h
    · rw [if_neg h]; simp; exact List.eq_nil_of_length_eq_zero (by omega)
  | w :: l, s => by
    rw [steps, List.sum_cons]
    by_cases h : w ≤ s.length
    · rw [st_ok s w h, steps_end l (s.drop w), List.length_drop]; omega
    · rw [st_short s w (by omega), steps_err l _ _ (by decide)]
      constructor
      · intro hh; exact absurd hh (by decide)
      · intro hh; omega

/-! ### Memory in which one object alone is written -/
def Kp (p : Nat) (H K : AHeap) : Prop := H.next ≤ K.next ∧ ∀ i, i ≠ p → i < H.next → K.obj i = H.obj i
theorem Kp.refl (p : Nat) (H : AHeap) : Kp p H H := ⟨Nat.le_refl _, fun _ _ _ => rfl⟩
theorem Kp.trans {p : Nat} {a b c : AHeap} (h : Kp p a b) (k : Kp p b c) : Kp p a c := ⟨Nat.le_trans h.1 k.1, fun i hp hi => (k.2 i hp (Nat.lt_of_lt_of_le hi h.1)).trans (h.2 i hp hi)⟩
theorem Kp.set (p : Nat) (H : AHeap) (o : AObj) : Kp p H (H.set p o) := ⟨Nat.le_refl _, fun i hp _ => by simp only [set_obj]; rw [if_neg hp]⟩
theorem Kp.new (p : Nat) (H : AHeap) (o : AObj) : Kp p H (H.new o) := ⟨Nat.le_succ _, fun i _ hi => by simp only [new_obj]; rw [if_neg (by omega)]⟩

/-- A reader whose state is this. -/
def Rs (H : AHeap) (p : Nat) (x : List UInt8 × Int) : Prop := Rd H p x.1 x.2 ∧ p < H.next
theorem readS {H : AHeap} {p : Nat} {x : List UInt8 × Int} (h : Rs H p x) (w : Nat) (hw : 1 ≤ w ∧ w ≤ 8) :
    ∃ K, AC A 34 [.ptr p 0, .int .i64 (w : Int)] H = some (.int .u64 (va x w : Int), K) ∧ Rs K p (st x w) ∧ Kp p H K := by
  have u := U34 h.1 (w : Int)
  rw [show wid (w : Int) = (w : Int) by unfold wid; rw [if_pos (by omega)]] at u
  refine ⟨_, u, ⟨?_, by simp only [new_next, set_next]; have := h.2; omega⟩, (Kp.set p H _).trans (Kp.new p _ _)⟩
  unfold Rd st
  simp only [new_obj, set_next, set_obj]
  rw [if_neg (by have := h.2; omega), if_pos trivial]
  rfl

theorem U40o {H : AHeap} {p : Nat} {s : List UInt8} {e : Int} {own : Bool} (h : H.obj p = some (.cells [.str s, .int .i64 e] own)) : AC A 40 [.ptr p 0] H = some (.int .i64 e, H) := by
  rw [s_fn (A := A) (f := 40) (x := ReFns.c40) rfl rfl rfl]
  simp only [c40, h, rwA, rwB, Nat.reduceAdd, Nat.reduceMul, Nat.reduceLeDiff, Int.reduceEq, Int.reduceLT, Int.reduceLE, Int.reduceAdd, Int.reduceSub, Int.reduceMul, ↓reduceIte, Nat.reduceEqDiff, reduceCtorEq, ↓cnd_true, ↓cnd_false]
theorem U39o {H : AHeap} {p : Nat} {s : List UInt8} {e : Int} {own : Bool} (h : H.obj p = some (.cells [.str s, .int .i64 e] own)) : AC A 39 [.ptr p 0] H = some (.int .i64 (s.length : Int), H) := by
  rw [s_fn (A := A) (f := 39) (x := ReFns.c39) rfl rfl rfl]
  simp only [c39, h, rwA, rwB, Nat.reduceAdd, Nat.reduceMul, Nat.reduceLeDiff, Int.reduceEq, Int.reduceLT, Int.reduceLE, Int.reduceAdd, Int.reduceSub, Int.reduceMul, ↓reduceIte, Nat.reduceEqDiff, reduceCtorEq, ↓cnd_true, ↓cnd_false]
theorem U41o {H : AHeap} {p : Nat} {s : List UInt8} {e : Int} {own : Bool} (h : H.obj p = some (.cells [.str s, .int .i64 e] own)) : AC A 41 [.ptr p 0] H = some (.int .i64 (ending s e), H) := by
  rw [s_fn (A := A) (f := 41) (x := ReFns.c41) rfl rfl rfl]
  unfold ending
  cases c1 : decide (e = 0)
  · have hne : e ≠ 0 := by simpa using c1
    rw [if_pos hne]
    simp only [c41, U40o h, c1, rwA, rwB, Nat.reduceAdd, Nat.reduceMul, Nat.reduceLeDiff, Int.reduceEq, Int.reduceLT, Int.reduceLE, Int.reduceAdd, Int.reduceSub, Int.reduceMul, ↓reduceIte, Nat.reduceEqDiff, reduceCtorEq, ↓cnd_true, ↓cnd_false]
  · have he : e = 0 := by simpa using c1
    subst he
    rw [if_neg (by simp)]
    cases c2 : decide ((0 : Int) < (s.length : Int))
    · rw [if_neg (by simp at c2 ⊢; omega)]
      simp only [c41, U40o h, U39o h, c2, rwA, rwB, Nat.reduceAdd, Nat.reduceMul, Nat.reduceLeDiff, Int.reduceEq, Int.reduceLT, Int.reduceLE, Int.reduceAdd, Int.reduceSub, Int.reduceMul, ↓reduceIte, Nat.reduceEqDiff, reduceCtorEq, ↓cnd_true, ↓cnd_false]
    · rw [if_pos (by simp at c2 ⊢; omega)]
      simp only [c41, U40o h, U39o h, c2, rwA, rwB, Nat.reduceAdd, Nat.reduceMul, Nat.reduceLeDiff, Int.reduceEq, Int.reduceLT, Int.reduceLE, Int.reduceAdd, Int.reduceSub, Int.reduceMul, ↓reduceIte, Nat.reduceEqDiff, reduceCtorEq, ↓cnd_true, ↓cnd_false]

/-- What a reader's check says. -/
def fit (x : List UInt8 × Int) (ok : Bool) (v s : List UInt8) : Bool := decide (ending x.1 x.2 = 0) && (ok && decide (v = s))
def keep (b : Bool) (a : Int) : Int := if b then a else 0
def bad (b : Bool) : Int := if b then 0 else 19

theorem U100 {H : AHeap} {p : Nat} {x : List UInt8 × Int} (h : Rs H p x) (a b c d : Int) (s : List UInt8) :
    AC A 100 [.agg [.int .i64 a, .int .i64 b, .int .i64 c, .int .i64 d], .ptr p 0, .str s, .func 44 [] []] H =
      some (.tuple [.agg [.int .i64 (keep (fit x (rightc a b c d) (pc a b c d) s) a), .int .i64 (keep (fit x (rightc a b c d) (pc a b c d) s) b), .int .i64 (keep (fit x (rightc a b c d) (pc a b c d) s) c), .int .i64 (keep (fit x (rightc a b c d) (pc a b c d) s) d)], .int .i64 (bad (fit x (rightc a b c d) (pc a b c d) s))], H) := by
  refine look_val (x := ReFns.c100) rfl rfl rfl rfl ?_
  obtain ⟨K, eK⟩ : ∃ K, ((frz H).new (.cells [.int .i64 a, .int .i64 b, .int .i64 c, .int .i64 d] true)).new (.cells [.int .i64 0, .int .i64 0, .int .i64 0, .int .i64 0] true) = K := ⟨_, rfl⟩
  have hp := h.2
  have o : K.obj p = some (.cells [.str x.1, .int .i64 x.2] false) := by
    rw [← eK]
    simp only [new_obj, new_next, frz_next]
    rw [if_neg (by omega), if_neg (by omega)]
    exact frz_obj h.1
  have o4 : K.obj H.next = some (.cells [.int .i64 a, .int .i64 b, .int .i64 c, .int .i64 d] true) := by rw [← eK]; simp [AHeap.new, frz_next]
  have o8 : K.obj (H.next + 1) = some (.cells [.int .i64 0, .int .i64 0, .int .i64 0, .int .i64 0] true) := by rw [← eK]; simp [AHeap.new, frz_next]
  have nK : K.next = H.next + 2 := by rw [← eK]; rfl
  unfold fit keep bad
  cases c1 : decide (ending x.1 x.2 = 0) <;> cases c2 : rightc a b c d <;> cases c3 : decide (pc a b c d = s) <;> simp only [c100, frz_next, eK, o4, o8, nK, U44, U41o o, chk, sure, c1, c2, c3, rwA, rwB, Nat.reduceAdd, Nat.reduceMul, Nat.reduceLeDiff, Int.reduceEq, Int.reduceLT, Int.reduceLE, Int.reduceAdd, Int.reduceSub, Int.reduceMul, ↓reduceIte, Nat.reduceEqDiff, reduceCtorEq, ↓cnd_true, ↓cnd_false] <;> first | rfl | exact ⟨_, rfl⟩ | skip

/-- Two counts read. -/
def i8 (n : Nat) (z : Int) : Int := IntKind.i64.wrap (IntKind.i64.wrap (n : Int) - z)
theorem U99 {H : AHeap} {p : Nat} {x : List UInt8 × Int} (h : Rs H p x) (z : Int) :
    ∃ K, AC A 99 [.ptr p 0, .int .i64 z] H = some (.agg [.int .i64 (i8 (va x 8) z), .int .i64 (i8 (va (st x 8) 8) z)], K) ∧ Rs K p (st (st x 8) 8) ∧ Kp p H K := by
  obtain ⟨H0, eH0⟩ : ∃ K, H.new (.cells [.int .i64 0, .int .i64 0] true) = K := ⟨_, rfl⟩
  have n0 : H0.next = H.next + 1 := by rw [← eH0]; rfl
  have hp := h.2
  have k0 : Kp p H H0 := by rw [← eH0]; exact Kp.new p _ _
  have h0 : Rs H0 p x := ⟨by unfold Rd; rw [← eH0]; simp only [new_obj]; rw [if_neg (by omega)]; exact h.1, by omega⟩
  obtain ⟨K1, u1, r1, x1⟩ := readS h0 8 (by omega)
  obtain ⟨K2, u2, r2, x2⟩ := readS r1 8 (by omega)
  have o0 : H0.obj H.next = some (.cells [.int .i64 0, .int .i64 0] true) := by rw [← eH0]; simp [AHeap.new]
  have o2 : K2.obj H.next = some (.cells [.int .i64 0, .int .i64 0] true) := by
    rw [(x1.trans x2).2 H.next (by omega) (by omega)]; exact o0
  have e8 : ((8 : Nat) : Int) = 8 := rfl
  rw [e8] at u1 u2
  refine ⟨K2.set H.next (.cells [.int .i64 (i8 (va x 8) z), .int .i64 (i8 (va (st x 8) 8) z)] true), ?_, ⟨?_, by simp only [set_next]; exact r2.2⟩, ?_⟩
  · rw [s_fn (A := A) (f := 99) (x := ReFns.c99) rfl rfl rfl]
    simp only [c99, eH0, u1, u2, o2, rwA, rwB, Nat.reduceAdd, Nat.reduceMul, Nat.reduceLeDiff, Int.reduceEq, Int.reduceLT, Int.reduceLE, Int.reduceAdd, Int.reduceSub, Int.reduceMul, ↓reduceIte, Nat.reduceEqDiff, reduceCtorEq, ↓cnd_true, ↓cnd_false]
    rfl
  · unfold Rd; simp only [set_obj]; rw [if_neg (by omega)]; exact r2.1
  · refine ⟨by simp only [set_next]; exact ((k0.trans x1).trans x2).1, fun i hi hlt => ?_⟩
    simp only [set_obj]
    rw [if_neg (by omega)]
    exact ((k0.trans x1).trans x2).2 i hi hlt

end Go.Proofs.Ytmicohgachjcgaa.Re
